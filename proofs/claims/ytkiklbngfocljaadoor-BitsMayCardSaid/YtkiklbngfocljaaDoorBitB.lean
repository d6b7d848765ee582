/- Sets of numbers: Clone of words, made, turned, joined. -/
import Derived.Test.YtkiklbngfocljaaDoorBitA
import Derived.Lib.SliceRun
import Derived.Laws.ResultCell
import Derived.Laws.Rows
import Derived.Deep.DeepCutAuto
namespace Go.Proofs.YtkiklbngfocljaaDoor
open Go.RowKit

theorem zero_w : ∀ i z, (Tryd.prog).info? 43 = some i → i.zero = some z → z.cells.toList = wE.cs 0 := by
  intro i z hi hz
  have e1 : ((Tryd.prog).info? 43).map (·.zero) = some (some (.int .u64 0)) := by kernel_rfl
  rw [hi] at e1
  simp [hz] at e1
  subst e1
  rfl
theorem results_cell_tmp_row {P : Program} {fn : Func} {p u : Tmp} {ty : TypeId} (h : fn.results = #[.cell p ty, .tmp u]) (tmps : Array Value) (w : World) (g : Nat) (t : TypeId) (cs : Array Value) (fr : Nat × Nat) (d : TypeDesc)
    (hp : tmps.getD p undef = .pointer (some ⟨g, 0, none⟩)) (hg : w.heap[g]? = some (.cells cs t fr))
    (hu : P.underlying ty = some d) (hd : (match d with | .struct _ | .array _ _ => true | _ => false) = true) (hi : (P.info? ty).map (·.size) = some cs.size) :
    (results fn tmps).run P w = .ok (.tuple #[.agg cs, tmps.getD u undef]) w := by
  rw [results_cell_tmp h, hp]
  simp [asAddr, run_loadVar_row w g t ty cs fr d hg hu hd hi, Result.andThen]
theorem own_empty {α : Type} (E : El α) (e : TypeId) {base : Nat} (w : World) (g : Nat) (hg : w.heap.size = g) (hb : base ≤ g) : Own E e base (w.alloc (.cells #[] e)) (.slice (some ⟨g, 0, none⟩) 0 0) [] := by
  subst hg
  exact ⟨by simp [El.row], .inr ⟨w.heap.size, 0, #[], rfl, hb, heap_alloc_new w _, Nat.le_refl _, Nat.zero_le _, by simp, by simp [El.row]⟩⟩
set_option maxHeartbeats 1000000 in
theorem cloneW_any (A : Option Addr) (n c : Nat) (ws : List Nat) (w : World) (h : Rd wE w.heap.size w A ws) (hn : n = ws.length) (hl : n ≤ 1000000) :
    Calls Tryd.prog 38 #[.slice A n c] w fun e w' => ∃ v, e = .returned v ∧ Own wE 43 w.heap.size w' v ws ∧ Ext w w' := by
  have hE0 : Ext w (w.alloc (.cells #[] 43)) := (Below.refl _ _).alloc (Nat.le_refl _) _
  have hO := hide (own_empty (base := w.heap.size) wE 43 w w.heap.size rfl (Nat.le_refl _))
  have h1 := hide (h.ext hE0)
  have hn' := hide hn
  have q : ∀ (w : World) (a : Option Addr) (n c n' c' : Nat), (binOp .eql 22 (.slice a n c) (.slice none n' c')).run Tryd.prog w = .ok (.bool a.isNone) w := fun w a n c n' c' => Lib.run_eql_slice_nil w _ _ a n c n' c' tyW.und
  cases A with
  | none =>
    have hx : ws = [] := by
      rcases h with h | ⟨_, _, h, _⟩
      · exact h
      · cases h
    subst hx
    have hx0 : n = 0 := hn
    subst hx0
    clear hO h1 h hn hn'
    go_enter Tryd.func38, Tryd.ntmps38
    go_wp2
    go_ret
    exact ⟨_, rfl, Own.nil_, Below.refl _ _⟩
  | some a =>
    replace h := hide h
    clear hn
    go_enter Tryd.func38, Tryd.ntmps38
    go_wp2_with (at_builtin; refine wpList_app tyW rfl (.tmp 5) (.tmp 6) rfl rfl hO.out rfl h1.out hn'.out (by have := hn'.out; simp; omega) (by simp) ?_)
    intro v' w' hO2 hg hne hnil
    have hB : Ext w w' := Own.below hO.out hE0 hg (by simp)
    replace hO2 := hide hO2
    clear hg hne hnil hO h1
    obtain ⟨A2, c2, rfl, -, -, -⟩ := hO2.out.rd
    go_wp2
    go_ret
    exact ⟨_, rfl, by simpa using hO2.out, hB⟩
set_option maxHeartbeats 1000000 in
theorem cloneI_any (A : Option Addr) (n c : Nat) (ws : List Int) (w : World) (h : Rd intE w.heap.size w A ws) (hn : n = ws.length) (hl : n ≤ 1000000) :
    Calls Tryd.prog 16 #[.slice A n c] w fun e w' => ∃ v, e = .returned v ∧ Own intE 3 w.heap.size w' v ws ∧ Ext w w' := by
  have hE0 : Ext w (w.alloc (.cells #[] 3)) := (Below.refl _ _).alloc (Nat.le_refl _) _
  have hO := hide (own_empty (base := w.heap.size) intE 3 w w.heap.size rfl (Nat.le_refl _))
  have h1 := hide (h.ext hE0)
  have hn' := hide hn
  have q : ∀ (w : World) (a : Option Addr) (n c n' c' : Nat), (binOp .eql 25 (.slice a n c) (.slice none n' c')).run Tryd.prog w = .ok (.bool a.isNone) w := fun w a n c n' c' => Lib.run_eql_slice_nil w _ _ a n c n' c' tyInt.und
  cases A with
  | none =>
    have hx : ws = [] := by
      rcases h with h | ⟨_, _, h, _⟩
      · exact h
      · cases h
    subst hx
    have hx0 : n = 0 := hn
    subst hx0
    clear hO h1 h hn hn'
    go_enter Tryd.func16, Tryd.ntmps16
    go_wp2
    go_ret
    exact ⟨_, rfl, Own.nil_, Below.refl _ _⟩
  | some a =>
    replace h := hide h
    clear hn
    go_enter Tryd.func16, Tryd.ntmps16
    go_wp2_with (at_builtin; refine wpList_app tyInt rfl (.tmp 5) (.tmp 6) rfl rfl hO.out rfl h1.out hn'.out (by have := hn'.out; simp; omega) (by simp) ?_)
    intro v' w' hO2 hg hne hnil
    have hB : Ext w w' := Own.below hO.out hE0 hg (by simp)
    replace hO2 := hide hO2
    clear hg hne hnil hO h1
    obtain ⟨A2, c2, rfl, -, -, -⟩ := hO2.out.rd
    go_wp2
    go_ret
    exact ⟨_, rfl, by simpa using hO2.out, hB⟩
set_option maxHeartbeats 1000000 in
theorem equalW_any (A1 A2 : Option Addr) (n1 c1 n2 c2 : Nat) (xs ys : List Nat) (w : World) (h1 : Rd wE w.heap.size w A1 xs) (h2 : Rd wE w.heap.size w A2 ys) (hn1 : n1 = xs.length) (hn2 : n2 = ys.length) (hl1 : n1 ≤ 1000000) :
    Calls Tryd.prog 36 #[.slice A1 n1 c1, .slice A2 n2 c2] w fun e w' => e = .returned (.bool (decide (xs = ys))) ∧ Ext w w' := by
  by_cases hlen : n1 = n2
  · subst hlen
    have hlen2 : Hid (xs.length = ys.length) := hide (hn1.symm.trans hn2)
    replace h1 := hide h1
    replace h2 := hide h2
    replace hn1 := hide hn1
    replace hn2 := hide hn2
    go_enter Tryd.func36, Tryd.ntmps36
    go_wp2
    go_loopw [13] (fun i wr => ∃ k : Nat, k ≤ n1 ∧ i = .int .i64 k ∧ Hid (xs.take k = ys.take k) ∧ Ext w wr) (fun i _ => n1 - (intOf i).toNat)
    case atStart => exact ⟨0, Nat.zero_le _, rfl, hide rfl, Below.refl _ _⟩
    case round =>
      obtain ⟨k, hk, rfl, hsame, hB⟩ := hrel
      obtain ⟨hcc, hff⟩ := bcell hB
      have hsz := hB.size
      by_cases hlt : k < n1
      · obtain ⟨b1, o1, rfl, ra1⟩ := h1.out.at_ (i := k) (by rw [← hn1.out]; exact hlt)
        obtain ⟨b2, o2, rfl, ra2⟩ := h2.out.at_ (i := k) (by rw [← hn2.out]; exact hlt)
        have hb1 := ra1.1
        have hb2 := ra2.1
        obtain ⟨p1, hp1⟩ := get_some (xs := xs) (i := k) (by rw [← hn1.out]; exact hlt)
        obtain ⟨p2, hp2⟩ := get_some (xs := ys) (i := k) (by rw [← hn2.out]; exact hlt)
        have hx1 := ra1.word hp1
        have hx2 := ra2.word hp2
        by_cases he : p1 = p2
        · have hsame2 : Hid (xs.take (k + 1) = ys.take (k + 1)) := hide (by rw [take_snoc hp1, take_snoc hp2, hsame.out, he])
          subst he
          replace hp1 := hide hp1
          replace hp2 := hide hp2
          replace ra1 := hide ra1
          replace ra2 := hide ra2
          go_wp2
          refine wp_region_reads [(0, true), (1, true), (2, true), (3, true), (4, true), (5, true), (6, true), (7, true), (8, true)] (by kernel_rfl) (by kernel_rfl) (by kernel_rfl) (by kernel_rfl) (fun _ _ d _ _ h => by cases d <;> exact h) ?_
          iterate 9
            apply mix_q rfl rfl
            · intro W hW
              subst hW
              go_simp
              try exact rfl
            simp only [Act.put, List.setIfInBounds_toArray, List.set_cons_zero, List.set_cons_succ]
          refine mix_nil ?_
          go_wp2
          refine ⟨?_, ?_⟩
          · first
              | exact ⟨k + 1, by omega, by go_num, hsame2, hB.drew⟩
              | ((repeat apply Exists.intro); exact ⟨⟨k + 1, by omega, by go_num, hsame2, hB.drew⟩, rfl⟩)
          · first | (simp [intOf, lenV]; omega) | (simp [intOf]; omega) | (simp [intOf]; done)
        · have hne : Hid (decide (xs = ys) = false) := hide (decide_eq_false (fun h => by subst h; rw [hp1] at hp2; injection hp2 with hp2; exact he hp2))
          have he' : ((p1 : Int) == (p2 : Int)) = false := by rw [beq_eq_false_iff_ne]; omega
          have he2 : ((p1 : Int) != (p2 : Int)) = true := by rw [bne, he']; rfl
          replace he := hide he
          replace hp1 := hide hp1
          replace hp2 := hide hp2
          replace ra1 := hide ra1
          replace ra2 := hide ra2
          go_wp2
          refine wp_region_reads [(0, true), (1, true), (2, true), (3, true), (4, true), (5, true), (6, true), (7, true), (8, true)] (by kernel_rfl) (by kernel_rfl) (by kernel_rfl) (by kernel_rfl) (fun _ _ d _ _ h => by cases d <;> exact h) ?_
          iterate 9
            apply mix_q rfl rfl
            · intro W hW
              subst hW
              go_simp
              try exact rfl
            simp only [Act.put, List.setIfInBounds_toArray, List.set_cons_zero, List.set_cons_succ]
          refine mix_nil ?_
          go_wp2
          go_ret
          exact ⟨by rw [hne.out]; rfl, hB.drew⟩
      · obtain hkn : k = n1 := by omega
        have hfin : Hid (decide (xs = ys) = true) := hide (decide_eq_true (by
          have h := hsame.out
          rw [hkn, hn1.out, List.take_length, hlen2.out, List.take_length] at h
          exact h))
        subst hkn
        go_wp2
        go_ret
        exact ⟨by rw [hfin.out]; rfl, hB⟩
  · have hne : Hid (decide (xs = ys) = false) := hide (decide_eq_false (fun h => hlen (by rw [hn1, hn2, h])))
    have hlen' : ((n1 : Int) == (n2 : Int)) = false := by rw [beq_eq_false_iff_ne]; omega
    replace hlen := hide hlen
    replace h1 := hide h1
    replace h2 := hide h2
    replace hn1 := hide hn1
    replace hn2 := hide hn2
    go_enter Tryd.func36, Tryd.ntmps36
    go_wp2
    go_ret
    exact ⟨by rw [hne.out]; rfl, Below.refl _ _⟩
set_option maxHeartbeats 1000000 in
theorem equalI_any (A1 A2 : Option Addr) (n1 c1 n2 c2 : Nat) (xs ys : List Int) (w : World) (h1 : Rd intE w.heap.size w A1 xs) (h2 : Rd intE w.heap.size w A2 ys) (hn1 : n1 = xs.length) (hn2 : n2 = ys.length) (hl1 : n1 ≤ 1000000) :
    Calls Tryd.prog 25 #[.slice A1 n1 c1, .slice A2 n2 c2] w fun e w' => e = .returned (.bool (decide (xs = ys))) ∧ Ext w w' := by
  by_cases hlen : n1 = n2
  · subst hlen
    have hlen2 : Hid (xs.length = ys.length) := hide (hn1.symm.trans hn2)
    replace h1 := hide h1
    replace h2 := hide h2
    replace hn1 := hide hn1
    replace hn2 := hide hn2
    go_enter Tryd.func25, Tryd.ntmps25
    go_wp2
    go_loopw [13] (fun i wr => ∃ k : Nat, k ≤ n1 ∧ i = .int .i64 k ∧ Hid (xs.take k = ys.take k) ∧ Ext w wr) (fun i _ => n1 - (intOf i).toNat)
    case atStart => exact ⟨0, Nat.zero_le _, rfl, hide rfl, Below.refl _ _⟩
    case round =>
      obtain ⟨k, hk, rfl, hsame, hB⟩ := hrel
      obtain ⟨hcc, hff⟩ := bcell hB
      have hsz := hB.size
      by_cases hlt : k < n1
      · obtain ⟨b1, o1, rfl, ra1⟩ := h1.out.at_ (i := k) (by rw [← hn1.out]; exact hlt)
        obtain ⟨b2, o2, rfl, ra2⟩ := h2.out.at_ (i := k) (by rw [← hn2.out]; exact hlt)
        have hb1 := ra1.1
        have hb2 := ra2.1
        obtain ⟨p1, hp1⟩ := get_some (xs := xs) (i := k) (by rw [← hn1.out]; exact hlt)
        obtain ⟨p2, hp2⟩ := get_some (xs := ys) (i := k) (by rw [← hn2.out]; exact hlt)
        have hx1 := ra1.int hp1
        have hx2 := ra2.int hp2
        by_cases he : p1 = p2
        · have hsame2 : Hid (xs.take (k + 1) = ys.take (k + 1)) := hide (by rw [take_snoc hp1, take_snoc hp2, hsame.out, he])
          subst he
          replace hp1 := hide hp1
          replace hp2 := hide hp2
          replace ra1 := hide ra1
          replace ra2 := hide ra2
          go_wp2
          refine wp_region_reads [(0, true), (1, true), (2, true), (3, true), (4, true), (5, true), (6, true), (7, true), (8, true)] (by kernel_rfl) (by kernel_rfl) (by kernel_rfl) (by kernel_rfl) (fun _ _ d _ _ h => by cases d <;> exact h) ?_
          iterate 9
            apply mix_q rfl rfl
            · intro W hW
              subst hW
              go_simp
              try exact rfl
            simp only [Act.put, List.setIfInBounds_toArray, List.set_cons_zero, List.set_cons_succ]
          refine mix_nil ?_
          go_wp2
          refine ⟨?_, ?_⟩
          · first
              | exact ⟨k + 1, by omega, by go_num, hsame2, hB.drew⟩
              | ((repeat apply Exists.intro); exact ⟨⟨k + 1, by omega, by go_num, hsame2, hB.drew⟩, rfl⟩)
          · first | (simp [intOf, lenV]; omega) | (simp [intOf]; omega) | (simp [intOf]; done)
        · have hne : Hid (decide (xs = ys) = false) := hide (decide_eq_false (fun h => by subst h; rw [hp1] at hp2; injection hp2 with hp2; exact he hp2))
          have he' : ((p1 : Int) == (p2 : Int)) = false := by rw [beq_eq_false_iff_ne]; omega
          have he2 : ((p1 : Int) != (p2 : Int)) = true := by rw [bne, he']; rfl
          replace he := hide he
          replace hp1 := hide hp1
          replace hp2 := hide hp2
          replace ra1 := hide ra1
          replace ra2 := hide ra2
          go_wp2
          refine wp_region_reads [(0, true), (1, true), (2, true), (3, true), (4, true), (5, true), (6, true), (7, true), (8, true)] (by kernel_rfl) (by kernel_rfl) (by kernel_rfl) (by kernel_rfl) (fun _ _ d _ _ h => by cases d <;> exact h) ?_
          iterate 9
            apply mix_q rfl rfl
            · intro W hW
              subst hW
              go_simp
              try exact rfl
            simp only [Act.put, List.setIfInBounds_toArray, List.set_cons_zero, List.set_cons_succ]
          refine mix_nil ?_
          go_wp2
          go_ret
          exact ⟨by rw [hne.out]; rfl, hB.drew⟩
      · obtain hkn : k = n1 := by omega
        have hfin : Hid (decide (xs = ys) = true) := hide (decide_eq_true (by
          have h := hsame.out
          rw [hkn, hn1.out, List.take_length, hlen2.out, List.take_length] at h
          exact h))
        subst hkn
        go_wp2
        go_ret
        exact ⟨by rw [hfin.out]; rfl, hB⟩
  · have hne : Hid (decide (xs = ys) = false) := hide (decide_eq_false (fun h => hlen (by rw [hn1, hn2, h])))
    have hlen' : ((n1 : Int) == (n2 : Int)) = false := by rw [beq_eq_false_iff_ne]; omega
    replace hlen := hide hlen
    replace h1 := hide h1
    replace h2 := hide h2
    replace hn1 := hide hn1
    replace hn2 := hide hn2
    go_enter Tryd.func25, Tryd.ntmps25
    go_wp2
    go_ret
    exact ⟨by rw [hne.out]; rfl, Below.refl _ _⟩
/-- one word of a row of the call's own, stored anew -/
theorem Own.setWord {e : TypeId} {base : Nat} {w : World} {A : Option Addr} {n c : Nat} {xs : List Nat} (h : Own wE e base w (.slice A n c) xs) {i : Nat} (hi : i < n) (x : Nat) :
    ∃ g u, A = some ⟨g, 0, none⟩ ∧ base ≤ g ∧ g < w.heap.size ∧ w.cell? ⟨g, i, none⟩ = some u ∧ w.frozen? ⟨g, i, none⟩ = false ∧ Own wE e base (w.setCell ⟨g, i, none⟩ (.int .u64 (x : Int))) (.slice A n c) (xs.set i x) := by
  obtain ⟨hl, h2⟩ := h
  rcases h2 with ⟨h1, h2⟩ | ⟨g, cap, cur, h1, hb, hg, hnc, hcm, hsz, hcur⟩
  · injection h1 with h3 h4 h5
    omega
  · injection h1 with h3 h4 h5
    subst h3 h5
    have hgs : g < w.heap.size := by
      rcases Nat.lt_or_ge g w.heap.size with hlt | hge
      · exact hlt
      · rw [Array.getElem?_eq_none hge] at hg
        cases hg
    have hic : i < cur.size := by rw [hsz]; show i < _ * 1; omega
    refine ⟨g, cur[i], rfl, hb, hgs, ?_, ?_, ?_⟩
    · unfold World.cell?
      rw [hg]
      simp [hic]
    · unfold World.frozen?
      rw [hg]
      simp
    unfold Own
    rw [List.length_set]
    refine ⟨by rw [wE_row, List.length_map, List.length_set]; show _ = _ * 1; omega, .inr ⟨g, c, cur.setIfInBounds i (.int .u64 (x : Int)), by rw [h4], hb, ?_, by omega, hcm, by rw [Array.size_setIfInBounds]; exact hsz, ?_⟩⟩
    · show (w.heap.modify g _)[g]? = _
      rw [Array.getElem?_modify, if_pos rfl, hg]
      rfl
    · rw [Array.toList_setIfInBounds, List.take_set, hcur, wE_row, wE_row, List.map_set]
theorem trim_step {ws : List Nat} {k x : Nat} (h : ws[k]? = some x) : trimW (ws.take (k + 1)) = if x = 0 then trimW (ws.take k) else ws.take (k + 1) := by
  rw [take_snoc h, trimW_snoc]
set_option maxRecDepth 100000 in
set_option maxHeartbeats 2000000 in
theorem made_any (A : Option Addr) (n c : Nat) (ws : List Nat) (w : World) (h : Rd wE w.heap.size w A ws) (hn : n = ws.length) (hl : n ≤ 1000000) (hnc : n ≤ c) :
    Calls Tryd.prog 43 #[.slice A n c] w fun e w' => ∃ v, e = .returned (.agg #[v]) ∧ Own wE 43 w.heap.size w' v (trimW ws) ∧ Ext w w' := by
  replace h := hide h
  replace hn := hide hn
  go_enter Tryd.func43, Tryd.ntmps43
  go_upto_region 1 with fail
  obtain ⟨w0, hw0⟩ : ∃ w0, w0 = w.alloc (.cells #[.slice none 0 0] 24) := ⟨_, rfl⟩
  rw [← hw0]
  have hE0 : Ext w w0 := by rw [hw0]; exact (Below.refl _ _).alloc (Nat.le_refl _) _
  have hb0 : w.heap.size < w0.heap.size := by rw [hw0]; simp
  have hbx : Hid (Box w0 w.heap.size 24 (.slice none 0 0)) := hide (by rw [hw0]; exact Box.new _ _ _)
  clear hw0
  go_upto_block 0 with fail
  go_cut [3] from 7 to 18 (fun s3 wx => ∃ k : Nat, k ≤ n ∧ s3 = .int .i64 k ∧ Hid (trimW ws = ws.take k) ∧ wx = w0)
  case first =>
    go_wp2
    go_loopw [3] (fun i wr => ∃ k : Nat, k ≤ n ∧ i = .int .i64 k ∧ Hid (trimW ws = trimW (ws.take k)) ∧ wr = w0) (fun i _ => (intOf i).toNat)
    case atStart => exact ⟨n, Nat.le_refl _, rfl, hide (by rw [hn.out, List.take_length]), rfl⟩
    case round =>
      obtain ⟨k, hk, rfl, hT, hwr⟩ := hrel
      subst hwr
      by_cases hk0 : k = 0
      · subst hk0
        have hT0 : Hid (trimW ws = ws.take 0) := hide (by rw [hT.out]; rfl)
        go_wp2
        go_meet
        case rel => exact ⟨0, Nat.zero_le _, rfl, hT0, rfl⟩
      · obtain ⟨m, hm⟩ : ∃ m, m = k - 1 := ⟨_, rfl⟩
        obtain ⟨b, off, rfl, ra⟩ := h.out.at_ (i := m) (by rw [← hn.out]; omega)
        obtain ⟨x, hx⟩ := get_some (xs := ws) (i := m) (by rw [← hn.out]; omega)
        have hbw := Nat.lt_of_lt_of_le ra.1 hE0.size
        have hxc : wr.cell? ⟨b, off + m, none⟩ = some (.int .u64 (x : Int)) := (ra.ext hE0).word hx
        have u1 : IntKind.i64.wrap ((k : Int) - 1) = (m : Int) := by rw [IntWalk.i64_in _ (by omega)]; omega
        have hk1 : 0 < (k : Int) := by omega
        have hmn : m < n := by omega
        have hmn' : (m : Int) < (n : Int) := by omega
        have hkm : k = m + 1 := by omega
        have hmk : m < k := by omega
        have hst := trim_step hx
        rw [← hkm] at hst
        by_cases hx0 : x = 0
        · have hT1 : Hid (trimW ws = trimW (ws.take m)) := hide (by rw [hT.out, hst, if_pos hx0])
          subst hx0
          replace hx := hide hx
          replace hst := hide hst
          replace ra := hide ra
          replace hm := hide hm
          replace hkm := hide hkm
          go_wp2
          refine ⟨?_, ?_⟩
          · first
              | exact ⟨m, Nat.le_of_lt hmn, by go_num, hT1, trivial⟩
              | ((repeat apply Exists.intro); exact ⟨⟨m, Nat.le_of_lt hmn, by go_num, hT1, trivial⟩, rfl⟩)
          · first | (simp [intOf, lenV]; omega) | (simp [intOf]; omega) | (simp [intOf]; done)
        · have hT1 : Hid (trimW ws = ws.take k) := hide (by rw [hT.out, hst, if_neg hx0])
          have hx0' : ((x : Int) == 0) = false := by rw [beq_eq_false_iff_ne]; omega
          replace hx := hide hx
          replace hx0 := hide hx0
          replace hst := hide hst
          replace ra := hide ra
          replace hm := hide hm
          replace hkm := hide hkm
          go_wp2
          go_meet
          case rel => exact ⟨k, hk, rfl, hT1, rfl⟩
  case rest =>
    obtain ⟨k, hk, rfl, hT, hwc⟩ := hcut
    subst hwc
    go_wp2_with (at_make; refine wpList_make (base := w.heap.size) (z0 := (0 : Nat)) (n := k) tyW rfl (.tmp 19) (.tmp 19) rfl zero_w rfl rfl rfl rfl (by omega) (Nat.le_of_lt hb0) ?_)
    intro w2 hO hg
    have hB2 := hE0.trans ((grown_none hg).mono hE0.size)
    have hbx2 := hide (hbx.out.ext (grown_none hg))
    replace hO := hide hO
    obtain ⟨g, hgeq⟩ : ∃ g, g = wc.heap.size := ⟨_, rfl⟩
    rw [← hgeq] at hO hb0 ⊢
    have hne : Hid (w.heap.size ≠ g) := hide (by omega)
    have hsz2 : w.heap.size < w2.heap.size := hbx2.out.lt
    clear hg hbx hgeq hE0
    have hk2 : k ≤ c := Nat.le_trans hk hnc
    have hk3 : (k : Int) ≤ (c : Int) := by omega
    have hlen : Hid (k = (ws.take k).length) := hide (by rw [List.length_take, ← hn.out]; omega)
    have hlen2 : Hid ((List.replicate k (0 : Nat)).length = (ws.take k).length) := hide (by rw [List.length_replicate]; exact hlen.out)
    cases A with
    | none =>
      have hws : ws = [] := by
        rcases h.out with h | ⟨_, _, h, _⟩
        · exact h
        · cases h
      subst hws
      have hn0 : n = 0 := hn.out
      subst hn0
      have hk0 : k = 0 := by omega
      subst hk0
      have hr : Hid (Rd wE w2.heap.size w2 none (List.take 0 ([] : List Nat))) := hide (.inl rfl)
      go_wp2_with (refine wpList_copy tyW rfl (.tmp 21) (.tmp 25) rfl rfl hO.out rfl hr.out hlen.out hlen2.out ?_)
      intro w3 hO3 hg3
      have hO3' := hide hO3
      clear hO3
      have hO3 : Own wE 43 w.heap.size w3 (.slice (some ⟨g, 0, none⟩) 0 0) (trimW []) := by rw [hT.out]; exact hO3'.out
      clear hO3'
      have hbx3 := hide (hbx2.out.grown hg3 (by simpa [Value.ownBlock] using hne.out))
      have hB3 : Ext w w3 := hO.out.below hB2 hg3 (Nat.le_of_lt hsz2)
      have hsz3 : w.heap.size < w3.heap.size := hbx3.out.lt
      have hcb := hbx3.out.cell
      have hfb := hbx3.out.free
      have hO4 := hide (hO3.set hbx3.out (by decide) (.slice (some ⟨g, 0, none⟩) 0 0))
      have hbx4 := hide (hbx3.out.set (.slice (some ⟨g, 0, none⟩) 0 0))
      clear hO3 hg3 hO hbx2 hr hlen hlen2
      go_wp2
      refine bodyPost_ret (results_cell_row rfl _ _ w.heap.size 24 _ _ _ rfl hbx4.out Tryd.underlying24 rfl (by kernel_rfl)) rfl ?_
      exact ⟨_, rfl, hO4.out, hB3.setCell (Nat.le_refl _) _⟩
    | some a =>
      have hr := hide ((h.out.ext hB2).take k)
      go_wp2_with (refine wpList_copy tyW rfl (.tmp 21) (.tmp 25) rfl rfl hO.out rfl hr.out hlen.out hlen2.out ?_)
      intro w3 hO3 hg3
      have hO3' := hide hO3
      clear hO3
      have hO3 : Own wE 43 w.heap.size w3 (.slice (some ⟨g, 0, none⟩) k k) (trimW ws) := by rw [hT.out]; exact hO3'.out
      clear hO3'
      have hbx3 := hide (hbx2.out.grown hg3 (by simpa [Value.ownBlock] using hne.out))
      have hB3 : Ext w w3 := hO.out.below hB2 hg3 (Nat.le_of_lt hsz2)
      have hsz3 : w.heap.size < w3.heap.size := hbx3.out.lt
      have hcb := hbx3.out.cell
      have hfb := hbx3.out.free
      have hO4 := hide (hO3.set hbx3.out (by decide) (.slice (some ⟨g, 0, none⟩) k k))
      have hbx4 := hide (hbx3.out.set (.slice (some ⟨g, 0, none⟩) k k))
      clear hO3 hg3 hO hbx2 hr hlen hlen2
      go_wp2
      refine bodyPost_ret (results_cell_row rfl _ _ w.heap.size 24 _ _ _ rfl hbx4.out Tryd.underlying24 rfl (by kernel_rfl)) rfl ?_
      exact ⟨_, rfl, hO4.out, hB3.setCell (Nat.le_refl _) _⟩
end Go.Proofs.YtkiklbngfocljaaDoor
