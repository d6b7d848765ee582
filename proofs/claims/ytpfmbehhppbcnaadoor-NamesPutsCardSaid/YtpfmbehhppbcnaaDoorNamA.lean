/- names: copies and comparisons of rows; where a text stands in a row. -/
import Derived.Test.YtpfmbehhppbcnaaDoorNumD
namespace Go.Proofs.YtpfmbehhppbcnaaDoor
open Go.RowKit

theorem own_empty {α : Type} (E : El α) (e : TypeId) {base : Nat} (w : World) (g : Nat) (hg : w.heap.size = g) (hb : base ≤ g) : Own E e base (w.alloc (.cells #[] e)) (.slice (some ⟨g, 0, none⟩) 0 0) [] := by
  subst hg
  exact ⟨by simp [El.row], .inr ⟨w.heap.size, 0, #[], rfl, hb, heap_alloc_new w _, Nat.le_refl _, Nat.zero_le _, by simp, by simp [El.row]⟩⟩
theorem tyStr : Ty Tryd.prog strE 24 9 16 := ty_of (z := .string ByteArray.empty) (sz := 1) (by kernel_rfl) (by kernel_rfl) rfl rfl (by decide)
theorem tyInt : Ty Tryd.prog intE 28 3 8 := ty_of (z := .int .i64 0) (sz := 1) (by kernel_rfl) (by kernel_rfl) rfl rfl (by decide)
theorem texts_ne {a b : ByteArray} (h : a ≠ b) : (a.toList == b.toList) = false := by
  rw [beq_eq_false_iff_ne]
  intro e
  rw [toList_data', toList_data'] at e
  exact h (ByteArray.ext (Array.toList_inj.1 e))
set_option maxHeartbeats 1000000 in
theorem cloneS_any (A : Option Addr) (n c : Nat) (ws : List ByteArray) (w : World) (h : Rd strE w.heap.size w A ws) (hn : n = ws.length) (hl : n ≤ 1000000) :
    Calls Tryd.prog 9 #[.slice A n c] w fun e w' => ∃ v, e = .returned v ∧ Own strE 9 w.heap.size w' v ws ∧ Ext w w' := by
  have hE0 : Ext w (w.alloc (.cells #[] 9)) := (Below.refl _ _).alloc (Nat.le_refl _) _
  have hO := hide (own_empty (base := w.heap.size) strE 9 w w.heap.size rfl (Nat.le_refl _))
  have h1 := hide (h.ext hE0)
  have hn' := hide hn
  have q : ∀ (w : World) (a : Option Addr) (n c n' c' : Nat), (binOp .eql 24 (.slice a n c) (.slice none n' c')).run Tryd.prog w = .ok (.bool a.isNone) w := fun w a n c n' c' => Lib.run_eql_slice_nil w _ _ a n c n' c' tyStr.und
  cases A with
  | none =>
    have hx : ws = [] := by
      rcases h with h | ⟨_, _, h, _⟩
      · exact h
      · cases h
    subst hx
    have hx0 : n = 0 := hn
    subst hx0
    clear hO h1 h hn hn'
    go_enter Tryd.func9, Tryd.ntmps9
    go_wp2
    go_ret
    exact ⟨_, rfl, Own.nil_, Below.refl _ _⟩
  | some a =>
    replace h := hide h
    clear hn
    go_enter Tryd.func9, Tryd.ntmps9
    go_wp2_with (at_builtin; refine wpList_app tyStr rfl (.tmp 5) (.tmp 6) rfl rfl hO.out rfl h1.out hn'.out (by have := hn'.out; simp; omega) (by simp) ?_)
    intro v' w' hO2 hg hne hnil
    have hB : Ext w w' := Own.below hO.out hE0 hg (by simp)
    replace hO2 := hide hO2
    clear hg hne hnil hO h1
    obtain ⟨A2, c2, rfl, -, -, -⟩ := hO2.out.rd
    go_wp2
    go_ret
    exact ⟨_, rfl, by simpa using hO2.out, hB⟩
set_option maxHeartbeats 1000000 in
theorem equalI_any (A1 A2 : Option Addr) (n1 c1 n2 c2 : Nat) (xs ys : List Int) (w : World) (h1 : Rd intE w.heap.size w A1 xs) (h2 : Rd intE w.heap.size w A2 ys) (hn1 : n1 = xs.length) (hn2 : n2 = ys.length) (hl1 : n1 ≤ 1000000) :
    Calls Tryd.prog 12 #[.slice A1 n1 c1, .slice A2 n2 c2] w fun e w' => e = .returned (.bool (decide (xs = ys))) ∧ Ext w w' := by
  by_cases hlen : n1 = n2
  · subst hlen
    have hlen2 : Hid (xs.length = ys.length) := hide (hn1.symm.trans hn2)
    replace h1 := hide h1
    replace h2 := hide h2
    replace hn1 := hide hn1
    replace hn2 := hide hn2
    go_enter Tryd.func12, Tryd.ntmps12
    go_wp2
    go_loopw [13] (fun i wr => ∃ k : Nat, k ≤ n1 ∧ i = .int .i64 k ∧ Hid (xs.take k = ys.take k) ∧ Ext w wr) (fun i _ => n1 - (intOf i).toNat)
    case atStart => exact ⟨0, Nat.zero_le _, rfl, hide rfl, Below.refl _ _⟩
    case round =>
      obtain ⟨k, hk, rfl, hsame, hB⟩ := hrel
      obtain ⟨hcc, hff⟩ := bcell hB
      have hsz := hB.size
      by_cases hlt : k < n1
      · obtain ⟨b1, o1, rfl, ra1⟩ := h1.out.at_ (i := k) (by rw [← hn1.out]; exact hlt)
        obtain ⟨b2, o2, rfl, ra2⟩ := h2.out.at_ (i := k) (by rw [← hn2.out]; exact hlt)
        have hb1 := ra1.1
        have hb2 := ra2.1
        obtain ⟨p1, hp1⟩ := get_some (xs := xs) (i := k) (by rw [← hn1.out]; exact hlt)
        obtain ⟨p2, hp2⟩ := get_some (xs := ys) (i := k) (by rw [← hn2.out]; exact hlt)
        have hx1 := ra1.int hp1
        have hx2 := ra2.int hp2
        by_cases he : p1 = p2
        · skip
          have hsame2 : Hid (xs.take (k + 1) = ys.take (k + 1)) := hide (by rw [take_snoc hp1, take_snoc hp2, hsame.out, he])
          subst he
          replace hp1 := hide hp1
          replace hp2 := hide hp2
          replace ra1 := hide ra1
          replace ra2 := hide ra2
          go_wp2
          refine wp_region_reads [(0, true), (1, true), (2, true), (3, true), (4, true), (5, true), (6, true), (7, true), (8, true)] (by kernel_rfl) (by kernel_rfl) (by kernel_rfl) (by kernel_rfl) (fun _ _ d _ _ h => by cases d <;> exact h) ?_
          iterate 9
            apply mix_q rfl rfl
            · intro W hW
              subst hW
              go_simp
              try exact rfl
            simp only [Act.put, List.setIfInBounds_toArray, List.set_cons_zero, List.set_cons_succ]
          refine mix_nil ?_
          go_wp2
          refine ⟨?_, ?_⟩
          · first
              | exact ⟨k + 1, by omega, by go_num, hsame2, hB.drew⟩
              | ((repeat apply Exists.intro); exact ⟨⟨k + 1, by omega, by go_num, hsame2, hB.drew⟩, rfl⟩)
          · first | (simp [intOf, lenV]; omega) | (simp [intOf]; omega) | (simp [intOf]; done)
        · have hne : Hid (decide (xs = ys) = false) := hide (decide_eq_false (fun h => by subst h; rw [hp1] at hp2; injection hp2 with hp2; exact he hp2))
          have he' : ((p1 : Int) == (p2 : Int)) = false := by rw [beq_eq_false_iff_ne]; omega
          replace he := hide he
          replace hp1 := hide hp1
          replace hp2 := hide hp2
          replace ra1 := hide ra1
          replace ra2 := hide ra2
          go_wp2
          refine wp_region_reads [(0, true), (1, true), (2, true), (3, true), (4, true), (5, true), (6, true), (7, true), (8, true)] (by kernel_rfl) (by kernel_rfl) (by kernel_rfl) (by kernel_rfl) (fun _ _ d _ _ h => by cases d <;> exact h) ?_
          iterate 9
            apply mix_q rfl rfl
            · intro W hW
              subst hW
              go_simp
              try exact rfl
            simp only [Act.put, List.setIfInBounds_toArray, List.set_cons_zero, List.set_cons_succ]
          refine mix_nil ?_
          go_wp2
          go_ret
          exact ⟨by rw [hne.out]; rfl, hB.drew⟩
      · obtain hkn : k = n1 := by omega
        have hfin : Hid (decide (xs = ys) = true) := hide (decide_eq_true (by
          have h := hsame.out
          rw [hkn, hn1.out, List.take_length, hlen2.out, List.take_length] at h
          exact h))
        subst hkn
        go_wp2
        go_ret
        exact ⟨by rw [hfin.out]; rfl, hB⟩
  · have hne : Hid (decide (xs = ys) = false) := hide (decide_eq_false (fun h => hlen (by rw [hn1, hn2, h])))
    have hlen' : ((n1 : Int) == (n2 : Int)) = false := by rw [beq_eq_false_iff_ne]; omega
    replace hlen := hide hlen
    replace h1 := hide h1
    replace h2 := hide h2
    replace hn1 := hide hn1
    replace hn2 := hide hn2
    go_enter Tryd.func12, Tryd.ntmps12
    go_wp2
    go_ret
    exact ⟨by rw [hne.out]; rfl, Below.refl _ _⟩
set_option maxHeartbeats 1000000 in
theorem equalS_any (A1 A2 : Option Addr) (n1 c1 n2 c2 : Nat) (xs ys : List ByteArray) (w : World) (h1 : Rd strE w.heap.size w A1 xs) (h2 : Rd strE w.heap.size w A2 ys) (hn1 : n1 = xs.length) (hn2 : n2 = ys.length) (hl1 : n1 ≤ 1000000) :
    Calls Tryd.prog 14 #[.slice A1 n1 c1, .slice A2 n2 c2] w fun e w' => e = .returned (.bool (decide (xs = ys))) ∧ Ext w w' := by
  by_cases hlen : n1 = n2
  · subst hlen
    have hlen2 : Hid (xs.length = ys.length) := hide (hn1.symm.trans hn2)
    replace h1 := hide h1
    replace h2 := hide h2
    replace hn1 := hide hn1
    replace hn2 := hide hn2
    go_enter Tryd.func14, Tryd.ntmps14
    go_wp2
    go_loopw [13] (fun i wr => ∃ k : Nat, k ≤ n1 ∧ i = .int .i64 k ∧ Hid (xs.take k = ys.take k) ∧ Ext w wr) (fun i _ => n1 - (intOf i).toNat)
    case atStart => exact ⟨0, Nat.zero_le _, rfl, hide rfl, Below.refl _ _⟩
    case round =>
      obtain ⟨k, hk, rfl, hsame, hB⟩ := hrel
      obtain ⟨hcc, hff⟩ := bcell hB
      have hsz := hB.size
      by_cases hlt : k < n1
      · obtain ⟨b1, o1, rfl, ra1⟩ := h1.out.at_ (i := k) (by rw [← hn1.out]; exact hlt)
        obtain ⟨b2, o2, rfl, ra2⟩ := h2.out.at_ (i := k) (by rw [← hn2.out]; exact hlt)
        have hb1 := ra1.1
        have hb2 := ra2.1
        obtain ⟨p1, hp1⟩ := get_some (xs := xs) (i := k) (by rw [← hn1.out]; exact hlt)
        obtain ⟨p2, hp2⟩ := get_some (xs := ys) (i := k) (by rw [← hn2.out]; exact hlt)
        have hx1 := ra1.str hp1
        have hx2 := ra2.str hp2
        by_cases he : p1 = p2
        · skip
          have hsame2 : Hid (xs.take (k + 1) = ys.take (k + 1)) := hide (by rw [take_snoc hp1, take_snoc hp2, hsame.out, he])
          subst he
          replace hp1 := hide hp1
          replace hp2 := hide hp2
          replace ra1 := hide ra1
          replace ra2 := hide ra2
          go_wp2
          refine wp_region_reads [(0, true), (1, true), (2, true), (3, true), (4, true), (5, true), (6, true), (7, true), (8, true)] (by kernel_rfl) (by kernel_rfl) (by kernel_rfl) (by kernel_rfl) (fun _ _ d _ _ h => by cases d <;> exact h) ?_
          iterate 9
            apply mix_q rfl rfl
            · intro W hW
              subst hW
              go_simp
              try exact rfl
            simp only [Act.put, List.setIfInBounds_toArray, List.set_cons_zero, List.set_cons_succ]
          refine mix_nil ?_
          go_wp2
          refine ⟨?_, ?_⟩
          · first
              | exact ⟨k + 1, by omega, by go_num, hsame2, hB.drew⟩
              | ((repeat apply Exists.intro); exact ⟨⟨k + 1, by omega, by go_num, hsame2, hB.drew⟩, rfl⟩)
          · first | (simp [intOf, lenV]; omega) | (simp [intOf]; omega) | (simp [intOf]; done)
        · have hne : Hid (decide (xs = ys) = false) := hide (decide_eq_false (fun h => by subst h; rw [hp1] at hp2; injection hp2 with hp2; exact he hp2))
          have he' := texts_ne he
          replace he := hide he
          replace hp1 := hide hp1
          replace hp2 := hide hp2
          replace ra1 := hide ra1
          replace ra2 := hide ra2
          go_wp2
          refine wp_region_reads [(0, true), (1, true), (2, true), (3, true), (4, true), (5, true), (6, true), (7, true), (8, true)] (by kernel_rfl) (by kernel_rfl) (by kernel_rfl) (by kernel_rfl) (fun _ _ d _ _ h => by cases d <;> exact h) ?_
          iterate 9
            apply mix_q rfl rfl
            · intro W hW
              subst hW
              go_simp
              try exact rfl
            simp only [Act.put, List.setIfInBounds_toArray, List.set_cons_zero, List.set_cons_succ]
          refine mix_nil ?_
          go_wp2
          go_ret
          exact ⟨by rw [hne.out]; rfl, hB.drew⟩
      · obtain hkn : k = n1 := by omega
        have hfin : Hid (decide (xs = ys) = true) := hide (decide_eq_true (by
          have h := hsame.out
          rw [hkn, hn1.out, List.take_length, hlen2.out, List.take_length] at h
          exact h))
        subst hkn
        go_wp2
        go_ret
        exact ⟨by rw [hfin.out]; rfl, hB⟩
  · have hne : Hid (decide (xs = ys) = false) := hide (decide_eq_false (fun h => hlen (by rw [hn1, hn2, h])))
    have hlen' : ((n1 : Int) == (n2 : Int)) = false := by rw [beq_eq_false_iff_ne]; omega
    replace hlen := hide hlen
    replace h1 := hide h1
    replace h2 := hide h2
    replace hn1 := hide hn1
    replace hn2 := hide hn2
    go_enter Tryd.func14, Tryd.ntmps14
    go_wp2
    go_ret
    exact ⟨by rw [hne.out]; rfl, Below.refl _ _⟩
/-- where a text first stands -/
def at_ (xs : List ByteArray) (s : ByteArray) : Nat := (xs.findIdx? fun y => decide (y = s)).getD 0
theorem at_some {xs : List ByteArray} {s : ByteArray} {k : Nat} (h : xs[k]? = some s) (hno : ∀ y ∈ xs.take k, y ≠ s) : at_ xs s = k := by
  unfold at_
  have hk := (List.getElem?_eq_some_iff.1 h).1
  have : xs.findIdx? (fun y => decide (y = s)) = some k := by
    rw [List.findIdx?_eq_some_iff_getElem]
    refine ⟨hk, by rw [(List.getElem?_eq_some_iff.1 h).2]; simp, fun j hj => ?_⟩
    have h1 := hno (xs[j]'(by omega)) (List.mem_iff_getElem?.2 ⟨j, by rw [List.getElem?_take, if_pos hj]; exact List.getElem?_eq_getElem _⟩)
    simpa using h1
  rw [this]
  rfl
set_option maxHeartbeats 1000000 in
theorem index_any (A : Option Addr) (n c : Nat) (xs : List ByteArray) (s : ByteArray) (w : World) (h : Rd strE w.heap.size w A xs) (hn : n = xs.length) (hl : n ≤ 1000000) :
    Calls Tryd.prog 32 #[.slice A n c, .string s] w fun e w' => e = .returned (.int .i64 (if s ∈ xs then (at_ xs s : Int) else -1)) ∧ Ext w w' := by
  obtain ⟨z, hz⟩ : ∃ z : Int, z = if s ∈ xs then (at_ xs s : Int) else -1 := ⟨_, rfl⟩
  rw [← hz]
  replace hz := hide hz
  replace hn := hide hn
  replace h := hide h
  go_enter Tryd.func32, Tryd.ntmps32
  go_wp2
  go_loopw [8] (fun i wr => ∃ k : Nat, k ≤ n ∧ i = .int .i64 k ∧ Hid (∀ y ∈ xs.take k, y ≠ s) ∧ Ext w wr) (fun i _ => n - (intOf i).toNat)
  case atStart => exact ⟨0, by omega, rfl, hide (by simp), Below.refl _ _⟩
  case round =>
    obtain ⟨k, hk, rfl, hno, hB⟩ := hrel
    obtain ⟨hc, hf⟩ := bcell hB
    have hsz := hB.size
    by_cases hlt : k < n
    · have hlt' : (k : Int) < (n : Int) := by omega
      obtain ⟨b, off, rfl, hra⟩ := h.out.at_ (i := k) (by rw [← hn.out]; exact hlt)
      have hb1 := hra.1
      obtain ⟨p, hx⟩ := get_some (xs := xs) (i := k) (by rw [← hn.out]; exact hlt)
      have hx1 := hra.str hx
      replace hx := hide hx
      replace hra := hide hra
      by_cases he : s = p
      · have hv : Hid (z = (k : Int)) := hide (by rw [hz.out, if_pos (List.mem_of_getElem? (by rw [hx.out, he])), at_some (by rw [hx.out, he]) hno.out])
        subst he
        have hse : (s.toList == s.toList) = true := beq_self_eq_true _
        go_wp2
        go_ret
        exact ⟨by rw [hv.out]; rfl, hB⟩
      · have hse := texts_ne he
        have hno2 : Hid (∀ y ∈ xs.take (k + 1), y ≠ s) := hide (by
          rw [take_snoc hx.out]; intro y hy
          rcases List.mem_append.1 hy with h | h
          · exact hno.out y h
          · rw [List.mem_singleton] at h; subst h; exact fun e => he e.symm)
        replace he := hide he
        go_wp2
        refine ⟨?_, ?_⟩
        · first
            | exact ⟨k + 1, by omega, by go_num, hno2, hB⟩
            | ((repeat apply Exists.intro); exact ⟨⟨k + 1, by omega, by go_num, hno2, hB⟩, rfl⟩)
        · first | (simp [intOf, lenV]; omega) | (simp [intOf]; omega) | (simp [intOf]; done)
    · have hlt' : ¬ (k : Int) < (n : Int) := by omega
      have hv : Hid (z = -1) := hide (by
        have h1 := hno.out
        rw [List.take_of_length_le (by rw [← hn.out]; omega)] at h1
        rw [hz.out, if_neg (fun hm => h1 s hm rfl)])
      go_wp2
      go_ret
      exact ⟨by rw [hv.out]; rfl, hB⟩
set_option maxHeartbeats 1000000 in
theorem refFind_any (A : Option Addr) (n c : Nat) (xs : List ByteArray) (s : ByteArray) (w : World) (h : Rd strE w.heap.size w A xs) (hn : n = xs.length) (hl : n ≤ 1000000) :
    Calls Tryd.prog 21 #[.slice A n c, .string s] w fun e w' => e = .returned (.tuple #[.int .i64 (if s ∈ xs then (at_ xs s : Int) else 0), .bool (decide (s ∈ xs))]) ∧ Ext w w' := by
  obtain ⟨z, hz⟩ : ∃ z : Int, z = if s ∈ xs then (at_ xs s : Int) else 0 := ⟨_, rfl⟩
  obtain ⟨q, hq⟩ : ∃ q, q = decide (s ∈ xs) := ⟨_, rfl⟩
  rw [← hz, ← hq]
  replace hz := hide hz
  replace hq := hide hq
  replace hn := hide hn
  replace h := hide h
  go_enter Tryd.func21, Tryd.ntmps21
  go_wp2
  go_loopw [10] (fun i wr => ∃ k : Nat, k ≤ n ∧ i = .int .i64 k ∧ Hid (∀ y ∈ xs.take k, y ≠ s) ∧ Ext w wr) (fun i _ => n - (intOf i).toNat)
  case atStart => exact ⟨0, by omega, rfl, hide (by simp), Below.refl _ _⟩
  case round =>
    obtain ⟨k, hk, rfl, hno, hB⟩ := hrel
    obtain ⟨hc, hf⟩ := bcell hB
    have hsz := hB.size
    by_cases hlt : k < n
    · have hlt' : (k : Int) < (n : Int) := by omega
      obtain ⟨b, off, rfl, hra⟩ := h.out.at_ (i := k) (by rw [← hn.out]; exact hlt)
      have hb1 := hra.1
      obtain ⟨p, hx⟩ := get_some (xs := xs) (i := k) (by rw [← hn.out]; exact hlt)
      have hx1 := hra.str hx
      replace hx := hide hx
      replace hra := hide hra
      by_cases he : p = s
      · have hme : s ∈ xs := List.mem_of_getElem? (by rw [hx.out, he])
        have hv : Hid (z = (k : Int)) := hide (by rw [hz.out, if_pos hme, at_some (by rw [hx.out, he]) hno.out])
        have hv2 : Hid (q = true) := hide (by rw [hq.out, decide_eq_true hme])
        subst he
        have hse : (p.toList == p.toList) = true := beq_self_eq_true _
        replace hme := hide hme
        go_wp2
        go_ret2
        exact ⟨by rw [hv.out, hv2.out]; rfl, hB⟩
      · have hse := texts_ne he
        have hno2 : Hid (∀ y ∈ xs.take (k + 1), y ≠ s) := hide (by
          rw [take_snoc hx.out]; intro y hy
          rcases List.mem_append.1 hy with h | h
          · exact hno.out y h
          · rw [List.mem_singleton] at h; subst h; exact he)
        replace he := hide he
        go_wp2
        refine ⟨?_, ?_⟩
        · first
            | exact ⟨k + 1, by omega, by go_num, hno2, hB⟩
            | ((repeat apply Exists.intro); exact ⟨⟨k + 1, by omega, by go_num, hno2, hB⟩, rfl⟩)
        · first | (simp [intOf, lenV]; omega) | (simp [intOf]; omega) | (simp [intOf]; done)
    · have hlt' : ¬ (k : Int) < (n : Int) := by omega
      have hnm : s ∉ xs := by
        have h1 := hno.out
        rw [List.take_of_length_le (by rw [← hn.out]; omega)] at h1
        exact fun hm => h1 s hm rfl
      have hv : Hid (z = 0) := hide (by rw [hz.out, if_neg hnm])
      have hv2 : Hid (q = false) := hide (by rw [hq.out, decide_eq_false hnm])
      replace hnm := hide hnm
      go_wp2
      go_ret2
      exact ⟨by rw [hv.out, hv2.out]; rfl, hB⟩
end Go.Proofs.YtpfmbehhppbcnaaDoor
