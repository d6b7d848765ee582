/- names: the layer does something. -/
import Derived.Test.YtpfmbehhppbcnaaDoorNamE
namespace Go.Proofs.YtpfmbehhppbcnaaDoor
open Go.RowKit

theorem rd_litS (w : World) (t : TypeId) (xs : List ByteArray) : Rd strE (w.alloc (.cells (xs.map Value.string).toArray t)).heap.size (w.alloc (.cells (xs.map Value.string).toArray t)) (some ⟨w.heap.size, 0, none⟩) xs := by
  refine .inr ⟨w.heap.size, 0, rfl, by simp, fun i y hy j u hu => ?_⟩
  match j, hu with
  | 0, hu =>
    have hu2 : u = .string y := by simpa [strE] using hu.symm
    rw [World.cell?_alloc_new, hu2]
    have he : 0 + i * strE.sz + 0 = i := by show 0 + i * 1 + 0 = i; omega
    simp only [he]
    simp [hy]
theorem rd_litI (w : World) (t : TypeId) (xs : List Int) : Rd intE (w.alloc (.cells (xs.map fun x => Value.int .i64 x).toArray t)).heap.size (w.alloc (.cells (xs.map fun x => Value.int .i64 x).toArray t)) (some ⟨w.heap.size, 0, none⟩) xs := by
  refine .inr ⟨w.heap.size, 0, rfl, by simp, fun i y hy j u hu => ?_⟩
  match j, hu with
  | 0, hu =>
    have hu2 : u = .int .i64 y := by simpa [intE] using hu.symm
    rw [World.cell?_alloc_new, hu2]
    have he : 0 + i * intE.sz + 0 = i := by show 0 + i * 1 + 0 = i; omega
    simp only [he]
    simp [hy]
theorem all2T {p : ByteArray → Prop} {a b : ByteArray} (h1 : p a) (h2 : p b) : ∀ v ∈ [a, b], p v := by
  intro v hv
  rcases List.mem_cons.1 hv with rfl | hv
  · exact h1
  · rw [List.mem_singleton] at hv; subst hv; exact h2
theorem all3T {p : ByteArray → Prop} {a b c : ByteArray} (h1 : p a) (h2 : p b) (h3 : p c) : ∀ v ∈ [a, b, c], p v := by
  intro v hv
  rcases List.mem_cons.1 hv with rfl | hv
  · exact h1
  · exact all2T h2 h3 v hv
abbrev tA : ByteArray := ⟨#[97]⟩
abbrev tB : ByteArray := ⟨#[98]⟩
abbrev tC : ByteArray := ⟨#[99]⟩
abbrev t1A : ByteArray := ⟨#[49, 97]⟩
theorem one_rune (s : ByteArray) (p : Nat) (h : p < s.size) (hb : (s.get! p).toNat < 128) : rune s p = (s.get! p).toNat ∧ width s p = 1 := by
  unfold rune width
  rw [Lib.decode_at]
  unfold Lib.decodeN
  rw [if_pos hb]
  exact ⟨rfl, rfl⟩
theorem word_one (c : UInt8) (h1 : 97 ≤ c.toNat) (h2 : c.toNat ≤ 122) : wordB ⟨#[c]⟩ = true := by
  have hg : ((⟨#[c]⟩ : ByteArray).get! 0).toNat = c.toNat := rfl
  obtain ⟨e1, e2⟩ := one_rune ⟨#[c]⟩ 0 Nat.zero_lt_one (by rw [hg]; omega)
  rw [wordB_all (by show 1 ≠ 0; decide) (by show 1 ≤ 24; decide), rns_in (show 0 < (⟨#[c]⟩ : ByteArray).size from Nat.zero_lt_one), e2, rns_end (show ¬ 0 + 1 < (⟨#[c]⟩ : ByteArray).size from Nat.lt_irrefl 1)]
  rw [List.all_cons, List.all_nil, Bool.and_true, e1, hg]
  have hok : okR ⟨#[c]⟩ 0 = true := by unfold okR; rw [e1, hg, decide_eq_false (by omega)]; rfl
  unfold gW
  rw [hok, Bool.true_and]
  have hl : letZ ((c.toNat : Nat) : Int) = true := by unfold letZ; simp; omega
  rw [hl, Bool.true_or]
theorem wA : wordB tA = true := word_one 97 (by decide) (by decide)
theorem wB : wordB tB = true := word_one 98 (by decide) (by decide)
theorem wC : wordB tC = true := word_one 99 (by decide) (by decide)
theorem w1A : wordB t1A = false := by
  have hg : (t1A.get! 0).toNat = 49 := rfl
  obtain ⟨e1, e2⟩ := one_rune t1A 0 (by decide) (by rw [hg]; decide)
  rw [wordB_all (by decide) (by decide), rns_in (show 0 < t1A.size by decide), List.all_cons, e1, hg]
  unfold gW
  simp [letZ]
theorem allW : allF [tB, tA, tB] = ([tB, tA], [0, 1, 0], 0) := by
  have s1 : allStep ([], [], 0) tB = ([tB], [0], 0) := by unfold allStep; rw [if_neg (by decide), if_neg (by rw [wB]; decide), if_neg (by decide), if_neg (by decide)]; rfl
  have s2 : allStep ([tB], [0], 0) tA = ([tB, tA], [0, 1], 0) := by unfold allStep; rw [if_neg (by decide), if_neg (by rw [wA]; decide), if_neg (by decide), if_neg (by decide)]; rfl
  have s3 : allStep ([tB, tA], [0, 1], 0) tB = ([tB, tA], [0, 1, 0], 0) := by unfold allStep; rw [if_neg (by decide), if_neg (by rw [wB]; decide), if_neg (by decide), if_pos (by decide)]; rfl
  show allStep (allStep (allStep ([], [], 0) tB) tA) tB = _
  rw [s1, s2, s3]
theorem fBA : fineB [tB, tA] = true := by unfold fineB; rw [decide_eq_true (by decide), List.all_cons, List.all_cons, wB, wA]; rfl
theorem fACB : fineB [tA, tC, tB] = true := by unfold fineB; rw [decide_eq_true (by decide), List.all_cons, List.all_cons, List.all_cons, wA, wC, wB]; rfl
theorem fAA : fineB [tA, tA] = false := by unfold fineB; rw [decide_eq_false (by decide)]; rfl
theorem mvE : moveE [tB, tA] [tA, tC, tB] = 0 := by unfold moveE; rw [fBA, fACB]; decide
theorem mvL : moveL [tB, tA] [tA, tC, tB] = [2, 0] := by unfold moveL; rw [mvE]; rfl
set_option maxRecDepth 100000 in
set_option maxHeartbeats 4000000 in
theorem wakes_any (w : World) (hU : LaidU w) : Calls Tryd.prog 8 #[] w fun e w' => e = .returned (.bool true) ∧ Ext w w' := by
  replace hU := hide hU
  have sA : tA.size ≤ maxLen := by show 1 ≤ maxLen; unfold maxLen; omega
  have sB : tB.size ≤ maxLen := by show 1 ≤ maxLen; unfold maxLen; omega
  have sC : tC.size ≤ maxLen := by show 1 ≤ maxLen; unfold maxLen; omega
  have hmx : ∀ x ∈ [tB, tA, tB], x.size ≤ maxLen := all3T (p := fun x => x.size ≤ maxLen) sB sA sB
  have hm2 : ∀ x ∈ [tB, tA], x.size ≤ maxLen := all2T (p := fun x => x.size ≤ maxLen) sB sA
  have hm3 : ∀ x ∈ [tA, tC, tB], x.size ≤ maxLen := all3T (p := fun x => x.size ≤ maxLen) sA sC sB
  have hm4 : ∀ x ∈ [tA, tA], x.size ≤ maxLen := all2T (p := fun x => x.size ≤ maxLen) sA sA
  go_enter Tryd.func8, Tryd.ntmps8
  go_wp2_with fail
  obtain ⟨w1, hw⟩ : ∃ x, x = World.alloc w (.cells #[.string tB, .string tA, .string tB] 9) := ⟨_, rfl⟩
  rw [← hw]
  have hE1 : Ext w w1 := by rw [hw]; exact (Below.refl _ _).alloc (Nat.le_refl _) _
  have a1 : Hid (Rd strE (World.heap w1).size w1 (some ⟨(World.heap w).size, 0, none⟩) [tB, tA, tB]) := hide (by rw [hw]; exact rd_litS w 9 [tB, tA, tB])
  clear hw
  refine (all_any (some ⟨w.heap.size, 0, none⟩) 3 3 [tB, tA, tB] w1 a1.out rfl (by omega) hmx (hU.out.ext hE1)).mono ?_
  rintro e w2 ⟨v, u, rfl, Ov, Ou, hx⟩
  rw [allW] at Ov Ou ⊢
  simp only at Ov Ou ⊢
  have E := hE1.trans (hx.mono hE1.size)
  obtain ⟨Av, cv, rfl, rv, -, -⟩ := Ov.rd
  obtain ⟨Au, cu, rfl, ru, -, -⟩ := Ou.rd
  replace rv := hide rv
  replace ru := hide ru
  simp only [List.length_cons, List.length_nil, Nat.zero_add, Nat.reduceAdd] at rv ru ⊢
  clear Ov Ou hx hE1 a1
  go_upto_region 2 with fail
  obtain ⟨w3, hw⟩ : ∃ x, x = w2.alloc (.cells #[.slice Av 2 cv] 27) := ⟨_, rfl⟩
  rw [← hw]
  have hx : Ext w2 w3 := by rw [hw]; exact (Below.refl _ _).alloc (Nat.le_refl _) _
  have X1 : Box w3 w2.heap.size 27 (.slice Av 2 cv) := by rw [hw]; exact Box.new _ _ _
  clear hw
  obtain ⟨b1, hb1⟩ : ∃ x, x = w2.heap.size := ⟨_, rfl⟩
  rw [← hb1] at X1 ⊢
  clear hb1
  replace E := E.trans (hx.mono E.size)
  replace rv := hide (rv.out.ext hx)
  replace ru := hide (ru.out.ext hx)
  clear hx
  have k1 := X1.cell
  have s1 := X1.lt
  go_wp2_with fail
  obtain ⟨w4, hw⟩ : ∃ x, x = World.alloc w3 (.cells #[.string tA, .string tC, .string tB] 9) := ⟨_, rfl⟩
  rw [← hw]
  have hE2 : Ext w3 w4 := by rw [hw]; exact (Below.refl _ _).alloc (Nat.le_refl _) _
  have a2 : Hid (Rd strE (World.heap w4).size w4 (some ⟨(World.heap w3).size, 0, none⟩) [tA, tC, tB]) := hide (by rw [hw]; exact rd_litS w3 9 [tA, tC, tB])
  clear hw
  refine (move_any Av (some ⟨w3.heap.size, 0, none⟩) 2 cv 3 3 [tB, tA] [tA, tC, tB] w4 (rv.out.ext hE2) rfl (by omega) (hm2) a2.out rfl (by omega) (hm3) (hU.out.ext (E.trans (hE2.mono E.size)))).mono ?_
  rintro e w5 ⟨v, rfl, Om, hx⟩
  rw [mvL] at Om
  rw [mvE]
  have hx5 := hE2.trans (hx.mono hE2.size)
  replace E := E.trans (hx5.mono E.size)
  replace rv := hide (rv.out.ext hx5)
  replace ru := hide (ru.out.ext hx5)
  replace X1 := X1.ext hx5
  obtain ⟨Am, cm, rfl, rm, -, -⟩ := Om.rd
  replace rm := hide rm
  simp only [List.length_cons, List.length_nil, Nat.zero_add, Nat.reduceAdd] at rm ⊢
  clear Om hx hx5 hE2 a2 k1 s1
  have k1 := X1.cell
  have s1 := X1.lt
  go_wp2_with fail
  obtain ⟨w6, hw⟩ : ∃ x, x = World.alloc w5 (.cells #[.string tB, .string tA] 9) := ⟨_, rfl⟩
  rw [← hw]
  have hE3 : Ext w5 w6 := by rw [hw]; exact (Below.refl _ _).alloc (Nat.le_refl _) _
  have a3 : Hid (Rd strE (World.heap w6).size w6 (some ⟨(World.heap w5).size, 0, none⟩) [tB, tA]) := hide (by rw [hw]; exact rd_litS w5 9 [tB, tA])
  clear hw
  refine (equalS_any Av (some ⟨w5.heap.size, 0, none⟩) 2 cv 2 2 [tB, tA] [tB, tA] w6 (rv.out.ext hE3) a3.out rfl rfl (by omega)).mono ?_
  rintro e w7 ⟨rfl, hx⟩
  have hx7 := hE3.trans (hx.mono hE3.size)
  replace E := E.trans (hx7.mono E.size)
  replace ru := hide (ru.out.ext hx7)
  replace rm := hide (rm.out.ext hx7)
  clear hx hx7 hE3 a3 k1 s1 rv X1
  rw [decide_eq_true rfl]
  go_wp2_with fail
  obtain ⟨w8, hw⟩ : ∃ x, x = World.alloc w7 (.cells #[.int .i64 0, .int .i64 1, .int .i64 0] 3) := ⟨_, rfl⟩
  rw [← hw]
  have hE4 : Ext w7 w8 := by rw [hw]; exact (Below.refl _ _).alloc (Nat.le_refl _) _
  have a4 : Hid (Rd intE (World.heap w8).size w8 (some ⟨(World.heap w7).size, 0, none⟩) [0, 1, 0]) := hide (by rw [hw]; exact rd_litI w7 3 [0, 1, 0])
  clear hw
  refine (equalI_any Au (some ⟨w7.heap.size, 0, none⟩) 3 cu 3 3 [0, 1, 0] [0, 1, 0] w8 (ru.out.ext hE4) a4.out rfl rfl (by omega)).mono ?_
  rintro e w9 ⟨rfl, hx⟩
  have hx9 := hE4.trans (hx.mono hE4.size)
  replace E := E.trans (hx9.mono E.size)
  replace rm := hide (rm.out.ext hx9)
  clear hx hx9 hE4 a4 ru
  rw [decide_eq_true rfl]
  go_wp2_with fail
  obtain ⟨w10, hw⟩ : ∃ x, x = World.alloc w9 (.cells #[.int .i64 2, .int .i64 0] 3) := ⟨_, rfl⟩
  rw [← hw]
  have hE5 : Ext w9 w10 := by rw [hw]; exact (Below.refl _ _).alloc (Nat.le_refl _) _
  have a5 : Hid (Rd intE (World.heap w10).size w10 (some ⟨(World.heap w9).size, 0, none⟩) [2, 0]) := hide (by rw [hw]; exact rd_litI w9 3 [2, 0])
  clear hw
  refine (equalI_any Am (some ⟨w9.heap.size, 0, none⟩) 2 cm 2 2 [2, 0] [2, 0] w10 (rm.out.ext hE5) a5.out rfl rfl (by omega)).mono ?_
  rintro e w11 ⟨rfl, hx⟩
  have hx11 := hE5.trans (hx.mono hE5.size)
  replace E := E.trans (hx11.mono E.size)
  clear hx hx11 hE5 a5 rm
  rw [decide_eq_true rfl]
  go_wp2_with fail
  refine (checkN_any t1A w11 (by show 2 ≤ maxLen; unfold maxLen; omega) (hU.out.ext E)).mono ?_
  rintro e w12 ⟨rfl, hx⟩
  replace E := E.trans (hx.mono E.size)
  clear hx
  rw [chkN_not w1A]
  go_wp2_with fail
  obtain ⟨w13, hw⟩ : ∃ x, x = World.alloc w12 (.cells #[.string tA, .string tA] 9) := ⟨_, rfl⟩
  rw [← hw]
  have hE6 : Ext w12 w13 := by rw [hw]; exact (Below.refl _ _).alloc (Nat.le_refl _) _
  have a6 : Hid (Rd strE (World.heap w13).size w13 (some ⟨(World.heap w12).size, 0, none⟩) [tA, tA]) := hide (by rw [hw]; exact rd_litS w12 9 [tA, tA])
  clear hw
  refine (fine_any (some ⟨w12.heap.size, 0, none⟩) 2 2 [tA, tA] w13 a6.out rfl (by omega) hm4 (hU.out.ext (E.trans (hE6.mono E.size)))).mono ?_
  rintro e w14 ⟨rfl, hx⟩
  replace E := (E.trans (hE6.mono E.size)).trans (hx.mono (E.trans (hE6.mono E.size)).size)
  clear hx hE6 a6
  rw [finE_no fAA]
  go_wp2
  go_ret
  exact ⟨rfl, E⟩
end Go.Proofs.YtpfmbehhppbcnaaDoor
