/- The document's Right of stage 07. -/
import Derived.Test.YtepgpiolhiidiaaTopX
namespace Go.Proofs.Ytepgpiolhiidiaa
open Go.RowKit Go.Shelf
attribute [local go_sem] Oper.semAt_some
theorem drop_cons {α : Type} {l : List α} {k : Nat} {x : α} (h : l[k]? = some x) : l.drop k = x :: l.drop (k + 1) := by
  rw [List.drop_eq_getElem_cons (List.getElem?_eq_some_iff.1 h).1, (List.getElem?_eq_some_iff.1 h).2]
theorem nodes_all {n : Nat} {p : Int → Bool} : (nodes n).all p = true ↔ ∀ j : Nat, j < n → p (j : Int) = true := by
  rw [List.all_eq_true]
  constructor
  · intro h j hj
    exact h _ (mem_nodes.2 (by omega))
  · intro h v hv
    obtain ⟨h1, h2⟩ := mem_nodes.1 hv
    have := h v.toNat (by omega)
    rwa [show ((v.toNat : Nat) : Int) = v by omega] at this
set_option maxRecDepth 100000 in
set_option maxHeartbeats 4000000 in
theorem refRight7_any (nn : Nat) (A : Option Addr) (m c : Nat) (xs : List (Int × Int × Int)) (A2 : Option Addr) (n2 c2 : Nat) (l : List Int) (w : World) (hnn : nn ≤ 300) (h : Rd edgeE w.heap.size w A xs) (hm : m = xs.length) (hl : m ≤ 1000000) (h2 : Rd intE w.heap.size w A2 l) (hn2 : n2 = l.length) (hl2 : n2 ≤ 1000000) :
    Calls Try.prog 13 #[.agg #[.int .i64 nn, .slice A m c], .slice A2 n2 c2] w fun e w' => e = .returned (.bool (refR nn xs l)) ∧ Ext w w' := by
  obtain ⟨y1, hy1⟩ : ∃ q, q = refR nn xs l := ⟨_, rfl⟩
  rw [← hy1]
  have hA : Hid ((∃ j : Nat, j < nn ∧ l.count (j : Int) ≠ 1) → y1 = false) := hide (by
    rintro ⟨j, hj, hc⟩
    rw [hy1]
    unfold refR
    have : (nodes nn).all (fun v => decide (l.count v = 1)) = false := by
      rw [Bool.eq_false_iff]
      intro h
      have := nodes_all.1 h j hj
      simp at this
      exact hc this
    rw [this]; rfl)
  have hB : Hid (∀ e ∈ xs, scan e.1 e.2.1 false l = false → y1 = false) := hide (by
    intro e he hs
    rw [hy1]
    unfold refR
    have : xs.all (fun e => scan e.1 e.2.1 false l) = false := by
      rw [List.all_eq_false]
      exact ⟨e, he, by rw [hs]; decide⟩
    rw [this]; simp)
  have hC : Hid ((∀ j : Nat, j < nn → l.count (j : Int) = 1) → (∀ e ∈ xs, scan e.1 e.2.1 false l = true) → y1 = ((n2 : Int) == (nn : Int))) := hide (by
    intro h1 h2
    rw [hy1]
    unfold refR
    rw [nodes_all.2 (fun j hj => by simp [h1 j hj]), List.all_eq_true.2 h2, Bool.true_and, Bool.true_and, ← hn2]
    rw [Bool.eq_iff_iff, decide_eq_true_eq, beq_iff_eq]
    omega)
  clear hy1
  replace h := hide h
  replace hm := hide hm
  replace h2 := hide h2
  replace hn2 := hide hn2
  go_enter Try.func13, Try.ntmps13
  go_upto_region 1 with fail
  obtain ⟨w0, hw0⟩ : ∃ w0, w0 = w.alloc (.cells #[.int .i64 nn, .slice A m c] 24) := ⟨_, rfl⟩
  rw [← hw0]
  have hE0 : Ext w w0 := by rw [hw0]; exact (Below.refl _ _).alloc (Nat.le_refl _) _
  have X1 : BoxG w0 w.heap.size nn A m c := by rw [hw0]; exact BoxN.new w _ _
  clear hw0
  obtain ⟨pg, hpg⟩ : ∃ b, b = w.heap.size := ⟨_, rfl⟩
  rw [← hpg] at X1 ⊢
  clear hpg
  have k10 := X1.cell 0 (v := .int .i64 nn) rfl
  have s1 := X1.lt
  go_wp2
  clear k10 s1
  go_loopw [16] (fun q wr => ∃ k : Nat, k ≤ nn ∧ q = .int .i64 k ∧ Hid (∀ j : Nat, j < k → l.count (j : Int) = 1) ∧ Ext w0 wr) (fun q _ => nn - (intOf q).toNat)
  case atStart => exact ⟨0, Nat.zero_le _, rfl, hide (fun j hj => by omega), Below.refl _ _⟩
  case round =>
    obtain ⟨k, hk, rfl, hcn, hE⟩ := hrel
    by_cases hlt : k < nn
    · have hlt' : (k : Int) < (nn : Int) := by omega
      go_wp2
      go_loopw [21, 6] (fun q mm wx => ∃ i : Nat, i ≤ n2 ∧ q = .int .i64 i ∧ mm = .int .i64 ((l.take i).count (k : Int) : Nat) ∧ Ext w0 wx) (fun q _ _ => n2 - (intOf q).toNat)
      case atStart => exact ⟨0, Nat.zero_le _, rfl, rfl, hE⟩
      case round =>
        clear hE
        obtain ⟨i, hi, rfl, rfl, hE⟩ := hrel
        by_cases hlt2 : i < n2
        · have hlt2' : (i : Int) < (n2 : Int) := by omega
          obtain ⟨b2, o2, rfl, ra⟩ := h2.out.at_ (i := i) (by rw [← hn2.out]; exact hlt2)
          obtain ⟨x, hx⟩ := get_some (xs := l) (i := i) (by rw [← hn2.out]; exact hlt2)
          have hx1 := (ra.below (hE0.trans (hE.mono hE0.size))).int hx
          have hbk : b2 < wr.heap.size := cell_lt hx1
          have hct : (l.take (i + 1)).count (k : Int) = (l.take i).count (k : Int) + if x = (k : Int) then 1 else 0 := by
            rw [take_snoc hx, List.count_append, List.count_singleton]
            by_cases hxk : x = (k : Int)
            · simp [hxk]
            · simp [hxk]
          obtain ⟨cc, hcc⟩ : ∃ cc, cc = (l.take i).count (k : Int) := ⟨_, rfl⟩
          rw [← hcc] at hct ⊢
          have hcl : cc ≤ 1000000 := by
            rw [hcc]
            have := List.count_le_length (a := (k : Int)) (l := l.take i)
            rw [List.length_take] at this
            omega
          have ew : IntKind.i64.wrap ((cc : Int) + 1) = (cc : Int) + 1 := IntWalk.i64_in _ (by omega)
          replace hx := hide hx
          replace ra := hide ra
          replace hcc := hide hcc
          by_cases hxk : x = (k : Int)
          · have hxk' : (x == (k : Int)) = true := by simp [hxk]
            rw [if_pos hxk] at hct
            have hct2 : Hid (((l.take (i + 1)).count (k : Int) : Nat) = (cc : Int) + 1) := hide (by rw [hct]; rfl)
            clear hct
            replace hxk := hide hxk
            go_wp2
            refine ⟨⟨i + 1, by omega, by first | omega | go_num, by rw [hct2.out], hE⟩, ?_⟩
            simp [intOf]; omega
          · have hxk' : (x == (k : Int)) = false := by simp [hxk]
            rw [if_neg hxk] at hct
            have hct2 : Hid (((l.take (i + 1)).count (k : Int) : Nat) = (cc : Int)) := hide (by rw [hct]; rfl)
            clear hct
            replace hxk := hide hxk
            go_wp2
            refine ⟨⟨i + 1, by omega, by first | omega | go_num, by rw [hct2.out], hE⟩, ?_⟩
            simp [intOf]; omega
        · have hlt2' : ¬ (i : Int) < (n2 : Int) := by omega
          have hil : l.take i = l := List.take_of_length_le (by rw [← hn2.out]; omega)
          rw [hil]
          obtain ⟨cc, hcc⟩ : ∃ cc, cc = l.count (k : Int) := ⟨_, rfl⟩
          rw [← hcc]
          replace hcc := hide hcc
          clear hil
          by_cases hc1 : cc = 1
          · subst hc1
            have hcn2 : Hid (∀ j : Nat, j < k + 1 → l.count (j : Int) = 1) := hide (fun j hj => by
              by_cases hjk : j = k
              · rw [hjk, ← hcc.out]
              · exact hcn.out j (by omega))
            clear hcn hcc
            go_wp2
            refine ⟨?_, ?_⟩
            · first
                | exact ⟨k + 1, by omega, by first | omega | go_num, hcn2, hE⟩
                | ((repeat apply Exists.intro); exact ⟨⟨k + 1, by omega, by first | omega | go_num, hcn2, hE⟩, rfl⟩)
            · first | (simp [intOf, lenV]; omega) | (simp [intOf]; omega) | (simp [intOf]; done)
          · have hc1' : (((cc : Int) == 1)) = false := by simp; omega
            have hno := hide (hA.out ⟨k, hlt, by rw [← hcc.out]; exact hc1⟩)
            replace hc1 := hide hc1
            clear hcn hcc
            go_wp2
            go_ret
            exact ⟨by rw [hno.out]; rfl, hE0.trans (hE.mono hE0.size)⟩
    · have hlt' : ¬ (k : Int) < (nn : Int) := by omega
      have hkn : k = nn := by omega
      have hcn2 : Hid (∀ j : Nat, j < nn → l.count (j : Int) = 1) := hide (by have := hcn.out; rw [hkn] at this; exact this)
      clear hcn hkn
      have k11 := (X1.ext hE).cell 1 (v := .slice A m c) rfl
      have s1 := (X1.ext hE).lt
      have h0 : Hid (∀ e ∈ xs.take 0, scan e.1 e.2.1 false l = true) := hide (fun e he => by cases he)
      go_wp2
      clear k11 s1
      go_loopw [37] (fun q wx => ∃ k : Nat, k ≤ m ∧ q = .int .i64 k ∧ Hid (∀ e ∈ xs.take k, scan e.1 e.2.1 false l = true) ∧ Ext w0 wx) (fun q _ => m - (intOf q).toNat)
      case atStart => exact ⟨0, Nat.zero_le _, rfl, h0, hE⟩
      case round =>
        clear hE h0
        obtain ⟨k, hk, rfl, hsc, hE⟩ := hrel
        by_cases hlt3 : k < m
        · have hlt3' : (k : Int) < (m : Int) := by omega
          obtain ⟨bk, off, rfl, ra⟩ := h.out.at_ (i := k) (by rw [← hm.out]; exact hlt3)
          obtain ⟨⟨p1, p2, p3⟩, hx⟩ := get_some (xs := xs) (i := k) (by rw [← hm.out]; exact hlt3)
          obtain ⟨hx1, hx2, hx3⟩ := (ra.below (hE0.trans (hE.mono hE0.size))).edge hx
          have hbk : bk < wr.heap.size := cell_lt hx1
          have hme : (p1, p2, p3) ∈ xs := List.mem_of_getElem? hx
          have hts : Hid (xs.take (k + 1) = xs.take k ++ [(p1, p2, p3)]) := hide (take_snoc hx)
          have hno := hide (hB.out _ hme)
          obtain ⟨w9, hw9⟩ : ∃ x, x = wr.alloc (.cells #[.int .i64 p1, .int .i64 p2, .int .i64 p3] 50) := ⟨_, rfl⟩
          have hE9 : Ext wr w9 := by rw [hw9]; exact (Below.refl _ _).alloc (Nat.le_refl _) _
          have X10 : BoxN w9 wr.heap.size 50 #[.int .i64 p1, .int .i64 p2, .int .i64 p3] := by rw [hw9]; exact BoxN.new _ _ _
          have hE19 := hE.trans (hE9.mono hE.size)
          replace hx := hide hx
          replace hme := hide hme
          replace ra := hide ra
          go_upto_region 17 with fail
          rw [← hw9]
          obtain ⟨pe, hpe⟩ : ∃ q, q = wr.heap.size := ⟨_, rfl⟩
          rw [← hpe] at X10 ⊢
          clear hw9 hpe hE9 hE hx1 hx2 hx3 hbk
          go_wp2
          go_loopw [43, 11] (fun q bb wx => ∃ (i : Nat) (bh : Bool), i ≤ n2 ∧ q = .int .i64 i ∧ bb = .bool bh ∧ Hid (scan p1 p2 false l = scan p1 p2 bh (l.drop i)) ∧ Ext w9 wx) (fun q _ _ => n2 - (intOf q).toNat)
          case atStart => exact ⟨0, false, Nat.zero_le _, rfl, rfl, hide rfl, Below.refl _ _⟩
          case round =>
            obtain ⟨i, bh, hi, rfl, rfl, hsi, hE⟩ := hrel
            by_cases hlt2 : i < n2
            · have hlt2' : (i : Int) < (n2 : Int) := by omega
              obtain ⟨b2, o2, rfl, ra⟩ := h2.out.at_ (i := i) (by rw [← hn2.out]; exact hlt2)
              obtain ⟨x, hx⟩ := get_some (xs := l) (i := i) (by rw [← hn2.out]; exact hlt2)
              have hEa := hE19.trans (hE.mono hE19.size)
              have hx1 := (ra.below (hE0.trans (hEa.mono hE0.size))).int hx
              have hbk : b2 < wr.heap.size := cell_lt hx1
              have XE := X10.ext hE
              have k0 := XE.cell 0 (v := .int .i64 p1) rfl
              have k1 := XE.cell 1 (v := .int .i64 p2) rfl
              have sE := XE.lt
              have hsd : scan p1 p2 false l = if x = p2 ∧ bh = false then false else scan p1 p2 (bh || decide (x = p1)) (l.drop (i + 1)) := by
                rw [hsi.out, drop_cons hx]
                rfl
              replace hx := hide hx
              replace ra := hide ra
              clear hsi XE hEa
              by_cases hc : x = p2 ∧ bh = false
              · obtain ⟨hc1, rfl⟩ := hc
                rw [if_pos ⟨hc1, rfl⟩] at hsd
                have hf := hide (hno.out hsd)
                have hc1' : (x == p2) = true := by simp [hc1]
                have hEf := hide (hE0.trans ((hE19.trans (hE.mono hE19.size)).mono hE0.size))
                clear hsd
                replace hc1 := hide hc1
                go_wp2
                go_ret
                exact ⟨by rw [hf.out]; rfl, hEf.out⟩
              · rw [if_neg hc] at hsd
                have hsd2 : Hid (scan p1 p2 false l = scan p1 p2 (bh || decide (x = p1)) (l.drop (i + 1))) := hide hsd
                clear hsd
                cases bh with
                | true =>
                  have hsd3 : Hid (scan p1 p2 false l = scan p1 p2 true (l.drop (i + 1))) := hide (by have := hsd2.out; rw [Bool.true_or] at this; exact this)
                  clear hc hsd2
                  by_cases hp2 : x = p2
                  · have hp2' : (x == p2) = true := by simp [hp2]
                    replace hp2 := hide hp2
                    go_wp2
                    refine ⟨⟨i + 1, true, by omega, by first | omega | go_num, rfl, hsd3, hE⟩, ?_⟩
                    simp [intOf]; omega
                  · have hp2' : (x == p2) = false := by simp [hp2]
                    replace hp2 := hide hp2
                    go_wp2
                    refine ⟨⟨i + 1, true, by omega, by first | omega | go_num, rfl, hsd3, hE⟩, ?_⟩
                    simp [intOf]; omega
                | false =>
                  have hp2 : ¬ x = p2 := fun e => hc ⟨e, rfl⟩
                  have hp2' : (x == p2) = false := by simp [hp2]
                  replace hp2 := hide hp2
                  clear hc
                  by_cases hp1 : x = p1
                  · have hp1' : (x == p1) = true := by simp [hp1]
                    have hsd3 : Hid (scan p1 p2 false l = scan p1 p2 true (l.drop (i + 1))) := hide (by have := hsd2.out; rw [decide_eq_true hp1, Bool.or_true] at this; exact this)
                    replace hp1 := hide hp1
                    clear hsd2
                    go_wp2
                    refine ⟨⟨i + 1, true, by omega, by first | omega | go_num, rfl, hsd3, hE⟩, ?_⟩
                    simp [intOf]; omega
                  · have hp1' : (x == p1) = false := by simp [hp1]
                    have hsd3 : Hid (scan p1 p2 false l = scan p1 p2 false (l.drop (i + 1))) := hide (by have := hsd2.out; rw [decide_eq_false hp1, Bool.or_false] at this; exact this)
                    replace hp1 := hide hp1
                    clear hsd2
                    go_wp2
                    refine ⟨⟨i + 1, false, by omega, by first | omega | go_num, rfl, hsd3, hE⟩, ?_⟩
                    simp [intOf]; omega
            · have hlt2' : ¬ (i : Int) < (n2 : Int) := by omega
              have hsk : Hid (∀ e ∈ xs.take (k + 1), scan e.1 e.2.1 false l = true) := hide (fun e he => by
                rw [hts.out] at he
                rcases List.mem_append.1 he with he | he
                · exact hsc.out e he
                · obtain rfl : e = (p1, p2, p3) := by simpa using he
                  show scan p1 p2 false l = true
                  rw [hsi.out, List.drop_eq_nil_of_le (by rw [← hn2.out]; omega)]
                  cases bh <;> rfl)
              clear hsi hsc
              go_wp2
              refine ⟨?_, ?_⟩
              · first
                  | exact ⟨k + 1, by omega, by first | omega | go_num, hsk, hE19.trans (hE.mono hE19.size)⟩
                  | ((repeat apply Exists.intro); exact ⟨⟨k + 1, by omega, by first | omega | go_num, hsk, hE19.trans (hE.mono hE19.size)⟩, rfl⟩)
              · first | (simp [intOf, lenV]; omega) | (simp [intOf]; omega) | (simp [intOf]; done)
        · have hlt3' : ¬ (k : Int) < (m : Int) := by omega
          have hkm : xs.take k = xs := List.take_of_length_le (by rw [← hm.out]; omega)
          have hfin : Hid (y1 = ((n2 : Int) == (nn : Int))) := hide (hC.out hcn2.out (by have := hsc.out; rw [hkm] at this; exact this))
          have k10 := (X1.ext hE).cell 0 (v := .int .i64 nn) rfl
          have s1 := (X1.ext hE).lt
          have hEf := hide (hE0.trans (hE.mono hE0.size))
          clear hkm hsc hcn2
          go_wp2
          go_ret
          exact ⟨by rw [hfin.out]; rfl, hEf.out⟩
end Go.Proofs.Ytepgpiolhiidiaa
