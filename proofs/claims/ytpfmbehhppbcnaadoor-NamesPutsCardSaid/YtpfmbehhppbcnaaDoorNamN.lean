/- names.Name; the document's Right. -/
import Derived.Test.YtpfmbehhppbcnaaDoorNamMP
namespace Go.Proofs.YtpfmbehhppbcnaaDoor
open Go.RowKit

def nameE (xs : List ByteArray) (i : Int) : Int := if fineB xs = true then if 0 ≤ i ∧ i < xs.length then 0 else 4 else 201
def nameS (xs : List ByteArray) (i : Int) : ByteArray := if nameE xs i = 0 then xs.getD i.toNat ByteArray.empty else ByteArray.empty
set_option maxHeartbeats 1000000 in
theorem name_any (A : Option Addr) (n c : Nat) (xs : List ByteArray) (i : Int) (w : World) (h : Rd strE w.heap.size w A xs) (hn : n = xs.length) (hl : n ≤ 1000000) (hm : ∀ x ∈ xs, x.size ≤ maxLen) (hU : LaidU w) :
    Calls Tryd.prog 23 #[.agg #[.slice A n c], .int .i64 i] w fun e w' => e = .returned (.tuple #[.string (nameS xs i), .int .i64 (nameE xs i)]) ∧ Ext w w' := by
  replace h := hide h
  replace hn := hide hn
  replace hU := hide hU
  obtain ⟨y1, hy1⟩ : ∃ y, y = nameS xs i := ⟨_, rfl⟩
  obtain ⟨y2, hy2⟩ : ∃ y, y = nameE xs i := ⟨_, rfl⟩
  rw [← hy1, ← hy2]
  replace hy1 := hide hy1
  replace hy2 := hide hy2
  go_enter Tryd.func23, Tryd.ntmps23
  go_upto_region 1 with fail
  obtain ⟨w0, hw0⟩ : ∃ x, x = World.alloc w (.cells #[.slice A n c] 27) := ⟨_, rfl⟩
  rw [← hw0]
  have hE0 : Ext w w0 := by rw [hw0]; exact (Below.refl _ _).alloc (Nat.le_refl _) _
  have X2 : Box w0 (World.heap w).size 27 (.slice A n c) := by rw [hw0]; exact Box.new _ _ _
  clear hw0
  have c2 := X2.cell
  have s2 := X2.lt
  go_wp2_with fail
  refine (fine_any A n c xs _ (h.out.ext hE0) hn.out hl hm (hU.out.ext hE0)).mono ?_
  rintro e w1 ⟨rfl, hE1⟩
  have hE := hE0.trans (hE1.mono hE0.size)
  replace X2 := X2.ext hE1
  have c2 := X2.cell
  have s2 := X2.lt
  cases hf : fineB xs with
  | false =>
    rw [finE_no hf]
    have v2 : Hid (y2 = 201) := hide (by rw [hy2.out]; unfold nameE; rw [if_neg (by rw [hf]; decide)])
    have v1 : Hid (y1 = ByteArray.empty) := hide (by rw [hy1.out]; unfold nameS; rw [if_neg (by rw [← hy2.out, v2.out]; decide)])
    replace hf := hide hf
    go_wp2
    go_ret2
    exact ⟨by rw [v1.out, v2.out]; rfl, hE⟩
  | true =>
    rw [finE_yes hf]
    by_cases h0 : i < 0
    · have v2 : Hid (y2 = 4) := hide (by rw [hy2.out]; unfold nameE; rw [if_pos hf, if_neg (by omega)])
      have v1 : Hid (y1 = ByteArray.empty) := hide (by rw [hy1.out]; unfold nameS; rw [if_neg (by rw [← hy2.out, v2.out]; decide)])
      replace hf := hide hf
      go_wp2
      go_ret2
      exact ⟨by rw [v1.out, v2.out]; rfl, hE⟩
    · by_cases h1 : i < n
      · obtain ⟨k, rfl⟩ : ∃ k : Nat, i = k := ⟨i.toNat, by omega⟩
        have hk : k < n := by omega
        have h1' : ¬ (n : Int) ≤ k := by omega
        obtain ⟨bk, off, rfl, ra⟩ := (h.out.ext hE).at_ (i := k) (by rw [← hn.out]; exact hk)
        obtain ⟨s, hs⟩ := get_some (xs := xs) (i := k) (by rw [← hn.out]; exact hk)
        have hsc := ra.str hs
        have hbr := ra.1
        have v2 : Hid (y2 = 0) := hide (by rw [hy2.out]; unfold nameE; rw [if_pos hf, if_pos ⟨by omega, by rw [← hn.out]; exact h1⟩])
        have v1 : Hid (y1 = s) := hide (by rw [hy1.out]; unfold nameS; rw [if_pos (by rw [← hy2.out, v2.out])]; rw [List.getD, Int.toNat_natCast, hs, Option.getD_some])
        replace hf := hide hf
        replace ra := hide ra
        replace hs := hide hs
        go_wp2
        go_ret2
        exact ⟨by rw [v1.out, v2.out]; rfl, hE⟩
      · have h1' : (n : Int) ≤ i := by omega
        have v2 : Hid (y2 = 4) := hide (by rw [hy2.out]; unfold nameE; rw [if_pos hf, if_neg (by rw [← hn.out]; omega)])
        have v1 : Hid (y1 = ByteArray.empty) := hide (by rw [hy1.out]; unfold nameS; rw [if_neg (by rw [← hy2.out, v2.out]; decide)])
        replace hf := hide hf
        go_wp2
        go_ret2
        exact ⟨by rw [v1.out, v2.out]; rfl, hE⟩
theorem nodup_snoc {l : List ByteArray} {x : ByteArray} (h : l.Nodup) (hx : x ∉ l) : (l ++ [x]).Nodup := by
  rw [List.nodup_append]
  refine ⟨h, by simp, fun a ha b hb => ?_⟩
  rw [List.mem_singleton] at hb
  subst hb
  intro he
  exact hx (he ▸ ha)
theorem not_nodup {xs : List ByteArray} {k : Nat} {x : ByteArray} (hk : xs[k]? = some x) (hx : x ∈ xs.take k) : ¬ xs.Nodup := by
  intro hnd
  have h1 : (xs.take (k + 1)).Nodup := List.Nodup.sublist (List.take_sublist _ _) hnd
  rw [take_snoc hk, List.nodup_append] at h1
  exact h1.2.2 x hx x (by simp) rfl
set_option maxHeartbeats 1000000 in
theorem refRight_any (A : Option Addr) (n c : Nat) (xs : List ByteArray) (w : World) (h : Rd strE w.heap.size w A xs) (hn : n = xs.length) (hl : n ≤ 1000000) (hnc : n ≤ c) (hm : ∀ x ∈ xs, x.size ≤ maxLen) (hU : LaidU w) :
    Calls Tryd.prog 18 #[.agg #[.slice A n c]] w fun e w' => e = .returned (.bool (fineB xs)) ∧ Ext w w' := by
  replace h := hide h
  replace hn := hide hn
  replace hU := hide hU
  obtain ⟨y1, hy1⟩ : ∃ y, y = fineB xs := ⟨_, rfl⟩
  rw [← hy1]
  replace hy1 := hide hy1
  go_enter Tryd.func18, Tryd.ntmps18
  go_upto_region 1 with fail
  obtain ⟨w0, hw0⟩ : ∃ x, x = World.alloc w (.cells #[.slice A n c] 27) := ⟨_, rfl⟩
  rw [← hw0]
  have hE0 : Ext w w0 := by rw [hw0]; exact (Below.refl _ _).alloc (Nat.le_refl _) _
  have X2 : Box w0 (World.heap w).size 27 (.slice A n c) := by rw [hw0]; exact Box.new _ _ _
  clear hw0
  have c2 := X2.cell
  have s2 := X2.lt
  obtain ⟨b1, hb1⟩ : ∃ b, b = w.heap.size := ⟨_, rfl⟩
  rw [← hb1] at X2 c2 s2 ⊢
  clear hb1
  go_wp2
  replace X2 := hide X2
  go_loopw [10] (fun i wr => ∃ k : Nat, k ≤ n ∧ i = .int .i64 k ∧ Hid ((xs.take k).Nodup) ∧ Hid (∀ y ∈ xs.take k, wordB y = true) ∧ Hid (Box wr b1 27 (.slice A n c)) ∧ Ext w wr) (fun i _ => n - (intOf i).toNat)
  case atStart => exact ⟨0, Nat.zero_le _, rfl, hide (by simp), hide (by simp), X2, hE0⟩
  case round =>
    clear X2 c2 s2 hE0
    obtain ⟨k, hk, rfl, hnd, hwd, X2, hE⟩ := hrel
    have c2 := X2.out.cell
    have s2 := X2.out.lt
    by_cases hlt : k < n
    · have hlt' : (k : Int) < (n : Int) := by omega
      have hkc : k ≤ c := by omega
      have hkc' : (k : Int) ≤ (c : Int) := by omega
      have hrt := hide ((h.out.ext hE).take k)
      obtain ⟨bk, off, rfl, ra⟩ := (h.out.ext hE).at_ (i := k) (by rw [← hn.out]; exact hlt)
      obtain ⟨x, hx⟩ := get_some (xs := xs) (i := k) (by rw [← hn.out]; exact hlt)
      have hxc := ra.str hx
      have hbr := ra.1
      have hmx : x.size ≤ maxLen := hm x (List.mem_of_getElem? hx)
      have hkl : Hid (k = (xs.take k).length) := hide (by rw [List.length_take, ← hn.out]; omega)
      have htk : Hid (xs.take (k + 1) = xs.take k ++ [x]) := hide (take_snoc hx)
      replace hx := hide hx
      replace ra := hide ra
      go_wp2_with fail
      refine (refFind_any (some ⟨bk, off, none⟩) k c (xs.take k) x _ hrt.out hkl.out (by omega)).mono ?_
      rintro e w3 ⟨rfl, hE1⟩
      replace X2 := hide (X2.out.ext hE1)
      have hE2 := hE.trans (hE1.mono hE.size)
      clear c2 s2 hxc hbr
      by_cases hxt : x ∈ xs.take k
      · have v1 : Hid (y1 = false) := hide (by
          rw [hy1.out]; unfold fineB
          rw [decide_eq_false (not_nodup hx.out hxt)]; rfl)
        rw [decide_eq_true hxt]
        try rw [if_pos hxt]
        replace hxt := hide hxt
        go_wp2
        go_ret
        exact ⟨by rw [v1.out]; rfl, hE2⟩
      · rw [decide_eq_false hxt]
        try rw [if_neg hxt]
        have hnd2 : Hid ((xs.take (k + 1)).Nodup) := hide (by rw [htk.out]; exact nodup_snoc hnd.out hxt)
        replace hxt := hide hxt
        go_wp2_with fail
        refine (refWord_any x _ hmx).mono ?_
        rintro e w4 ⟨rfl, hE3⟩
        replace X2 := hide (X2.out.ext hE3)
        have hE4 := hE2.trans (hE3.mono hE2.size)
        clear hE hE1 hE2 hE3
        cases hw : wordB x with
        | true =>
          have hwd2 : Hid (∀ y ∈ xs.take (k + 1), wordB y = true) := hide (by
            rw [htk.out]; intro y hy
            rcases List.mem_append.1 hy with h | h
            · exact hwd.out y h
            · rw [List.mem_singleton] at h; rw [h]; exact hw)
          replace hw := hide hw
          go_wp2
          refine ⟨?_, ?_⟩
          · first
              | exact ⟨k + 1, by omega, by go_num, hnd2, hwd2, X2, hE4⟩
              | ((repeat apply Exists.intro); exact ⟨⟨k + 1, by omega, by go_num, hnd2, hwd2, X2, hE4⟩, rfl⟩)
          · first | (simp [intOf, lenV]; omega) | (simp [intOf]; omega) | (simp [intOf]; done)
        | false =>
          have v1 : Hid (y1 = false) := hide (by
            rw [hy1.out]; unfold fineB
            have : xs.all wordB = false := by rw [List.all_eq_false]; exact ⟨x, List.mem_of_getElem? hx.out, by rw [hw]; decide⟩
            rw [this]; simp)
          replace hw := hide hw
          go_wp2
          go_ret
          exact ⟨by rw [v1.out]; rfl, hE4⟩
    · have hlt' : ¬ (k : Int) < (n : Int) := by omega
      have hkn : k = n := by omega
      have hxs : xs.take k = xs := by rw [hkn, hn.out, List.take_length]
      have v1 : Hid (y1 = decide ((n : Int) ≤ 300)) := hide (by
        have h1 := hnd.out
        have h2 := hwd.out
        rw [hxs] at h1 h2
        rw [hy1.out]; unfold fineB
        rw [decide_eq_true h1, List.all_eq_true.2 h2, ← hn.out]
        simp
        omega)
      clear hkn hxs hk
      go_wp2
      go_ret
      exact ⟨by rw [v1.out]; rfl, hE⟩
end Go.Proofs.YtpfmbehhppbcnaaDoor
