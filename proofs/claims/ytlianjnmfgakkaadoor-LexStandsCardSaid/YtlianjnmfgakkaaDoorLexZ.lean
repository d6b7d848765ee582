/- Rows of tokens: copied, compared; the document's All and Spell. -/
import Derived.Test.YtlianjnmfgakkaaDoorLexY
import Derived.Test.YtlianjnmfgakkaaDoorLexI
import Derived.Test.YtlianjnmfgakkaaDoorLexL
namespace Go.Proofs.YtlianjnmfgakkaaDoor
open Go.RowKit

theorem own_empty {α : Type} {E : El α} (w : World) (e : TypeId) {base : Nat} (hb : base ≤ w.heap.size) : Own E e base (w.alloc (.cells #[] e)) (.slice (some ⟨w.heap.size, 0, none⟩) 0 0) [] :=
  World.ownsRow_made w #[] 0 hb (Nat.zero_le _) (by simp)
@[go_sem] theorem eqnil_Tok (w : World) (a : Option Addr) (n c : Nat) : (binOp .eql 34 (.slice a n c) (.slice none 0 0)).run Tryd.prog w = .ok (.bool a.isNone) w := Lib.run_eql_slice_nil w _ _ a n c 0 0 tyTok.und
@[go_sem] theorem neqnil_Tok (w : World) (a : Option Addr) (n c : Nat) : (binOp .neq 34 (.slice a n c) (.slice none 0 0)).run Tryd.prog w = .ok (.bool (!a.isNone)) w := run_neq_slice_nil w _ _ a n c tyTok.und
set_option maxHeartbeats 1000000 in
theorem clone_Tok (A : Option Addr) (n c : Nat) (xs : List Tok) (w : World) (hn : n = xs.length) (h : Rd tokE w.heap.size w A xs) (hb : n ≤ 1000000) :
    Calls Tryd.prog 19 #[.slice A n c] w fun e w' => ∃ v, e = .returned v ∧ Own tokE 29 w.heap.size w' v xs ∧ Ext w w' := by
  replace hn := hide hn
  replace h := hide h
  cases A with
  | none =>
    have hx : xs = [] := by rcases h.out with h | ⟨_, _, h, _⟩; exact h; cases h
    replace hx := hide hx
    go_enter Tryd.func19, Tryd.ntmps19
    go_wp2
    go_ret
    exact ⟨_, rfl, by rw [hx.out]; exact Own.nil_, Below.refl _ _⟩
  | some ad =>
    go_enter Tryd.func19, Tryd.ntmps19
    go_wp2_with (at_builtin; refine wpList_app tyTok rfl (.tmp 5) (.tmp 6) rfl rfl (own_empty w _ (Nat.le_refl _)) rfl (h.out.below ((Below.refl _ _).alloc (Nat.le_refl _) _)) hn.out (by rw [← hn.out]; simp; omega) (by simp) ?_)
    intro v1 w1 hown1 hg1 _ _
    have hE : Ext w w1 := (own_empty w _ (Nat.le_refl _)).below (E := tokE) ((Below.refl _ _).alloc (Nat.le_refl _) _) hg1 (by simp)
    replace hown1 := hide hown1
    clear hg1
    go_wp2
    go_ret
    exact ⟨_, rfl, by simpa using hown1.out, hE⟩
set_option maxHeartbeats 1000000 in
theorem equal_Tok (A B : Option Addr) (n c m d : Nat) (xs ys : List Tok) (w : World) (hn : n = xs.length) (h : Rd tokE w.heap.size w A xs) (hm : m = ys.length) (h' : Rd tokE w.heap.size w B ys) (hb : n ≤ 1000000) :
    Calls Tryd.prog 18 #[.slice A n c, .slice B m d] w fun e w' => e = .returned (.bool (decide (xs = ys))) ∧ Ext w w' := by
  by_cases hnm : n = m
  · subst hnm
    replace hn := hide hn
    replace hm := hide hm
    replace h := hide h
    replace h' := hide h'
    go_enter Tryd.func18, Tryd.ntmps18
    go_wp2
    go_loopw [13] (fun i wr => ∃ k : Nat, k ≤ n ∧ i = .int .i64 k ∧ Hid (xs.take k = ys.take k) ∧ Below w.heap.size w wr) (fun i _ => n - (intOf i).toNat)
    case atStart => exact ⟨0, by omega, rfl, hide rfl, Below.refl _ _⟩
    case round =>
      obtain ⟨k, hk, rfl, heq, hB⟩ := hrel
      obtain ⟨hc, hf⟩ := bcell hB
      by_cases hlt : k < n
      · obtain ⟨b, off, rfl, hra⟩ := h.out.at_ (i := k) (by rw [← hn.out]; exact hlt)
        obtain ⟨b', off', rfl, hrb⟩ := h'.out.at_ (i := k) (by rw [← hm.out]; exact hlt)
        have hb1 := hra.1
        have hb2 := hrb.1
        obtain ⟨⟨p1, p2, p3, p4⟩, hx⟩ := get_some (i := k) (by rw [← hn.out]; exact hlt)
        obtain ⟨hx1, hx2, hx3, hx4⟩ := hra.tok hx
        replace hx := hide hx
        obtain ⟨⟨q1, q2, q3, q4⟩, hy⟩ := get_some (i := k) (by rw [← hm.out]; exact hlt)
        obtain ⟨hy1, hy2, hy3, hy4⟩ := hrb.tok hy
        replace hy := hide hy
        replace hra := hide hra
        replace hrb := hide hrb
        have hk1 : (k : Int) < (n : Int) := by omega
        go_wp2
        refine wp_region_mix (fun W => Below w.heap.size w W) [(0, true), (1, true), (2, true), (3, true), (4, true), (5, true), (6, true), (7, true), (8, true)] (by kernel_rfl) (by kernel_rfl) (by kernel_rfl) (by kernel_rfl) (fun _ _ d _ _ h => by cases d <;> exact h) ?_ ?_
        · exact hB.drew
        iterate 9
          apply mix_q rfl rfl
          · intro W hW
            have hcW := (bcell hW).1
            go_simp
            try exact rfl
          simp only [Act.put, List.setIfInBounds_toArray, List.set_cons_zero, List.set_cons_succ]
        refine mix_nil ?_
        cases hne : neT (⟨p1, p2, p3, p4⟩ : Tok) (⟨q1, q2, q3, q4⟩ : Tok)
        · go_wp2
          refine ⟨?_, ?_⟩
          · first
              | exact ⟨k + 1, by omega, by go_num, hide (by rw [take_snoc hx.out, take_snoc hy.out, heq.out, (neT_iff _ _).1 hne]), hB.drew⟩
              | ((repeat apply Exists.intro); exact ⟨⟨k + 1, by omega, by go_num, hide (by rw [take_snoc hx.out, take_snoc hy.out, heq.out, (neT_iff _ _).1 hne]), hB.drew⟩, rfl⟩)
          · first | (simp [intOf, lenV]; omega) | (simp [intOf]; omega) | (simp [intOf]; done)
        · go_wp2
          go_ret
          refine ⟨ret_bool ?_, hB.drew⟩
          simp only [Bool.false_eq, decide_eq_false_iff_not]
          rintro rfl
          have e1 := hx.out.symm.trans hy.out
          injection e1 with e1
          rw [(neT_iff _ _).2 e1] at hne
          cases hne
      · go_wp2
        go_ret
        refine ⟨ret_bool ?_, hB⟩
        have e := heq.out
        rw [List.take_of_length_le (by rw [← hn.out]; omega), List.take_of_length_le (by rw [← hm.out]; omega)] at e
        simp [e]
  · have hne : (!((n : Int) == (m : Int))) = true := by simp; omega
    have hne' : xs ≠ ys := fun h => hnm (by rw [hn, hm, h])
    replace hn := hide hn
    replace hm := hide hm
    replace h := hide h
    replace h' := hide h'
    replace hne' := hide hne'
    go_enter Tryd.func18, Tryd.ntmps18
    go_wp2
    go_ret
    exact ⟨ret_bool (by simp [hne'.out]), Below.refl _ _⟩
theorem run_nil (s : ByteArray) (p : Nat) (h : (runN s p).2.2 ≠ 0) : (runN s p).1 = [] := by
  unfold runN at *
  generalize fnd s p = l at *
  cases l with
  | nil => exact absurd rfl h
  | cons f r =>
    unfold gather at h ⊢
    split
    · rename_i h1
      rw [if_pos h1] at h
      split
      · rename_i h2
        rw [if_pos h2] at h
        exact absurd rfl h
      · rfl
    · rfl
/-- what is gathered by a place, and what is behind it -/
def goneBy (s : ByteArray) (l : List Tok) (p : Nat) : List Tok × Nat × Int := if (runN s p).2.2 = 0 then (l ++ (runN s p).1, (runN s p).2.1, 0) else ([], (runN s p).2.1, (runN s p).2.2)
theorem gone_start (s : ByteArray) : allN s = goneBy s [] 0 := by
  unfold goneBy allN
  by_cases h : (runN s 0).2.2 = 0
  · rw [if_pos h, List.nil_append, ← h]
  · rw [if_neg h, ← run_nil s 0 h]
theorem gone_stop {s : ByteArray} {l : List Tok} {p : Nat} (hp : p ≤ s.size) (h : (nextN s p).2.2 = 0) (h5 : (nextN s p).1.kind = 5) : goneBy s l p = (l, s.size, 0) := by
  unfold goneBy
  rw [run_stop hp h h5, if_pos rfl, List.append_nil]
theorem gone_err {s : ByteArray} {l : List Tok} {p : Nat} (hp : p ≤ s.size) (h : (nextN s p).2.2 ≠ 0) : goneBy s l p = ([], (nextN s p).2.1, (nextN s p).2.2) := by
  unfold goneBy
  rw [run_err hp h, if_neg h]
theorem gone_more {s : ByteArray} {l : List Tok} {p : Nat} (hp : p ≤ s.size) (h : (nextN s p).2.2 = 0) (h5 : (nextN s p).1.kind ≠ 5) : goneBy s l p = goneBy s (l ++ [(nextN s p).1]) (nextN s p).2.1 := by
  unfold goneBy
  rw [run_more hp h h5]
  by_cases h1 : (runN s (nextN s p).2.1).2.2 = 0
  · rw [if_pos h1, if_pos h1, if_pos rfl, List.append_assoc]
    rfl
  · rw [if_neg h1, if_neg h1, if_neg h1]
set_option maxRecDepth 100000 in
set_option maxHeartbeats 4000000 in
theorem refAll_any (s : ByteArray) (hm : s.size ≤ 1000000) (w : World) :
    Calls Tryd.prog 17 #[.string s] w fun e w' => ∃ A n c, e = .returned (.tuple #[.slice A n c, .int .i64 ((allN s).2.1 : Int), .int .i64 (allN s).2.2]) ∧ Own tokE 29 w.heap.size w' (.slice A n c) (allN s).1 ∧ Ext w w' := by
  have hg0 := hide (gone_start s)
  replace hm := hide hm
  go_enter Tryd.func17, Tryd.ntmps17
  go_wp2
  go_loopw [5, 6] (fun v i wr => ∃ (p n c : Nat) (A : Option Addr) (l : List Tok), p ≤ s.size ∧ n ≤ p ∧ i = .int .i64 (p : Int) ∧ v = .slice A n c ∧ Hid (n = l.length) ∧ Hid (allN s = goneBy s l p) ∧ Hid (Own tokE 29 w.heap.size wr (.slice A n c) l) ∧ Ext w wr) (fun _ i _ => s.size - (intOf i).toNat)
  case atStart => exact ⟨0, 0, 0, none, [], Nat.zero_le _, Nat.le_refl _, rfl, rfl, hide rfl, hg0, hide Own.nil_, Below.refl _ _⟩
  case round =>
    clear hg0
    obtain ⟨p, n, c, A, l, hp, hnp, rfl, rfl, hn, hg, hO, hB⟩ := hrel
    have hrx := refNext_any s p hp hm.out
    have hnc := next_cases s p hp
    have hst := gone_stop (l := l) hp
    have her := gone_err (l := l) hp
    have hmo := gone_more (l := l) hp
    obtain ⟨N, hN⟩ : ∃ N, N = nextN s p := ⟨_, rfl⟩
    rw [← hN] at hrx hnc hst her hmo
    obtain ⟨⟨kd, pl, tx, gl⟩, q, er⟩ := N
    simp only at hrx hnc hst her hmo
    replace hrx := hide hrx
    replace hN := hide hN
    go_wp2_with fail
    refine (hrx.out _).mono ?_
    rintro e w2 ⟨rfl, hE2⟩
    dsimp only [tokV]
    have hB2 := hB.trans (hE2.mono hB.size)
    have hO2 := hide (hO.out.ext hE2)
    clear hE2 hB hO hrx
    go_upto_region 4 with fail
    obtain ⟨w3, hw3⟩ : ∃ x, x = w2.alloc (.cells #[.int .i64 kd, .int .i64 pl, .string tx, .bool gl] 29) := ⟨_, rfl⟩
    rw [← hw3]
    have X7 : BoxN w3 w2.heap.size 29 #[.int .i64 kd, .int .i64 pl, .string tx, .bool gl] := by rw [hw3]; exact BoxN.new w2 _ _
    have hO3 := hide (show Own tokE 29 w.heap.size w3 (.slice A n c) l by rw [hw3]; exact hO2.out.alloc _)
    have hB3 : Ext w w3 := by rw [hw3]; exact hB2.alloc hB2.size _
    clear hw3 hO2 hB2
    obtain ⟨p7, hp7⟩ : ∃ b, b = w2.heap.size := ⟨_, rfl⟩
    rw [← hp7] at X7 ⊢
    clear hp7
    by_cases he0 : er = 0
    · have k70 := X7.cell 0 (v := .int .i64 kd) rfl
      have k71 := X7.cell 1 (v := .int .i64 pl) rfl
      have k72 := X7.cell 2 (v := .string tx) rfl
      have k73 := X7.cell 3 (v := .bool gl) rfl
      have s7 := X7.lt
      by_cases hk5 : kd = 5
      · have hv : Hid (allN s = (l, s.size, 0)) := hide (by rw [hg.out, hst he0 hk5])
        clear hst her hmo hnc hg
        subst he0 hk5
        replace X7 := hide X7
        go_wp2
        go_ret3
        refine ⟨A, n, c, ?_, ?_, hB3⟩
        · rw [hv.out]; try rfl
        · rw [hv.out]; exact hO3.out
      · have hk5' : (kd == 5) = false := beq_eq_false_iff_ne.2 hk5
        have hg2 : Hid (allN s = goneBy s (l ++ [⟨kd, pl, tx, gl⟩]) q) := hide (by rw [hg.out, hmo he0 hk5])
        obtain ⟨hq1, hq2⟩ := hnc.2 he0 hk5
        have hn2 : Hid (n + 1 = (l ++ [(⟨kd, pl, tx, gl⟩ : Tok)]).length) := hide (by rw [hn.out]; simp)
        clear hst her hmo hnc hg
        subst he0
        have hon := own_new (base := 0) (e := 29) tokE w3 ⟨kd, pl, tx, gl⟩ w3.heap.size rfl (Nat.zero_le _)
        obtain ⟨A4, c4, hv1, hr4, -, -⟩ := hon.rd
        injection hv1 with hv2 hv3 hv4
        subst hv2
        clear hon hv3 hv4
        replace hr4 := hide hr4
        have Oa := hide (hO3.out.alloc (.cells (tokE.cs ⟨kd, pl, tx, gl⟩).toArray 29))
        have hsz := hB3.size
        have hEa := hide (hB3.alloc hsz (.cells (tokE.cs ⟨kd, pl, tx, gl⟩).toArray 29))
        replace X7 := hide X7
        replace hB3 := hide hB3
        go_wp2_with (at_builtin; refine wpList_app tyTok rfl (.tmp 27) (.tmp 29) rfl rfl Oa.out rfl hr4.out rfl (by have := hm.out; have := hn.out; simp; omega) (by simp; omega) ?_)
        intro v9 w9 hown hg9 hne hnil
        have T9 : Below w.heap.size w w9 := Own.below Oa.out hEa.out hg9 (by simp; omega)
        obtain ⟨A9, c9, rfl, -, -, -⟩ := hown.rd
        rw [← hn2.out] at hown ⊢
        replace hown := hide hown
        clear hg9 hne hnil Oa hEa hr4 hO3 hn
        go_wp2
        refine ⟨?_, ?_⟩
        · first
            | exact ⟨q, n + 1, c9, A9, l ++ [⟨kd, pl, tx, gl⟩], hq2, by omega, rfl, rfl, hn2, hg2, hown, T9⟩
            | ((repeat apply Exists.intro); exact ⟨⟨q, n + 1, c9, A9, l ++ [⟨kd, pl, tx, gl⟩], hq2, by omega, rfl, rfl, hn2, hg2, hown, T9⟩, rfl⟩)
        · first | (simp [intOf, lenV]; omega) | (simp [intOf]; omega) | (simp [intOf]; done)
    · have hv : Hid (allN s = ([], q, er)) := hide (by rw [hg.out, her he0])
      have e0 : (er == 0) = false := beq_eq_false_iff_ne.2 he0
      have e1 : (er != 0) = true := by rw [bne, e0]; rfl
      clear hst her hmo hnc hg
      go_wp2
      go_ret3
      refine ⟨none, 0, 0, ?_, ?_, hB3⟩
      · rw [hv.out]; try rfl
      · rw [hv.out]; exact Own.nil_
end Go.Proofs.YtlianjnmfgakkaaDoor
