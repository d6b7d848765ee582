/- Sets of numbers: turned, joined. -/
import Derived.Test.YtkiklbngfocljaaDoorBitB
namespace Go.Proofs.YtkiklbngfocljaaDoor
open Go.RowKit

def padW (ws : List Nat) (k : Nat) : List Nat := ws ++ List.replicate (k / 64 + 1 - ws.length) 0
def turnW (J : Nat → Nat → Nat) (ws : List Nat) (k : Nat) : List Nat := (padW ws k).set (k / 64) (J (wat ws (k / 64)) (2 ^ (k % 64)))
theorem padW_length (ws : List Nat) (k : Nat) : k / 64 < (padW ws k).length := by unfold padW; rw [List.length_append, List.length_replicate]; omega
theorem padW_wat (ws : List Nat) (k i : Nat) : wat (padW ws k) i = wat ws i := by
  unfold padW wat
  rcases Nat.lt_or_ge i ws.length with h | h
  · rw [List.getElem?_append_left h]
  · rw [List.getElem?_append_right h, List.getElem?_eq_none h, List.getElem?_replicate]
    split <;> rfl
def lenV : Value → Nat
  | .slice _ n _ => n
  | _ => 0
abbrev Joins (f : FuncId) (J : Nat → Nat → Nat) : Prop := ∀ x y, x < 18446744073709551616 → y < 18446744073709551616 → ∀ w, Calls Tryd.prog f #[.int .u64 ((x : Nat) : Int), .int .u64 ((y : Nat) : Int)] w fun e w' => e = .returned (.int .u64 ((J x y : Nat) : Int)) ∧ w' = w
set_option maxRecDepth 100000 in
set_option maxHeartbeats 2000000 in
theorem turned_any (f : FuncId) (J : Nat → Nat → Nat) (hJ : Joins f J) (he : ∀ (args : Array Value) (w : World), (callFunc f args).run Tryd.prog w = .ok (.enter f args) w)
    (A : Option Addr) (n c : Nat) (ws : List Nat) (k : Nat) (w : World) (h : Rd wE w.heap.size w A ws) (hn : n = ws.length) (hl : n ≤ 1000) (hk : k < 10000) (hf : Fit ws) :
    Calls Tryd.prog 44 #[.slice A n c, .int .i64 k, .func (.func f) #[] #[]] w fun e w' => ∃ v, e = .returned v ∧ Own wE 43 w.heap.size w' v (turnW J ws k) ∧ Ext w w' := by
  obtain ⟨q, hq⟩ : ∃ q, q = k / 64 := ⟨_, rfl⟩
  obtain ⟨r, hr⟩ : ∃ r, r = k % 64 := ⟨_, rfl⟩
  have u1 : Int.tdiv (k : Int) 64 = (q : Int) := by rw [hq]; simp
  have u2 : (k : Int) / 64 = (q : Int) := by rw [hq]; omega
  have u3 : (k : Int) % 64 = (r : Int) := by rw [hr]; omega
  have u4 : Int.tmod (k : Int) 64 = (r : Int) := by rw [hr, Int.tmod_eq_emod_of_nonneg (by omega)]; omega
  have hr64 : r < 64 := by omega
  have hq160 : q < 160 := by omega
  replace hq := hide hq
  replace hr := hide hr
  replace hn := hide hn
  replace h := hide h
  go_enter Tryd.func44, Tryd.ntmps44
  go_wp2_with fail
  refine (cloneW_any A n c ws _ h.out hn.out (by omega)).mono ?_
  rintro e w1 ⟨v1, rfl, hO, hB⟩
  obtain ⟨A1, c1, rfl, -, -, -⟩ := hO.rd
  rw [← hn.out] at hO ⊢
  replace hO := hide hO
  clear h
  go_upto_block 0 with fail
  go_cut [7] from 10 to 17 (fun s7 wx => Hid (Own wE 43 w.heap.size wx s7 (padW ws k)) ∧ Ext w wx)
  case first =>
    go_wp2
    go_loopw [7] (fun o wr => ∃ j : Nat, j ≤ q + 1 - n ∧ Hid (Own wE 43 w.heap.size wr o (ws ++ List.replicate j 0)) ∧ Ext w wr) (fun o _ => q + 1 - lenV o)
    case atStart => exact ⟨0, Nat.zero_le _, hide (by simpa using hO.out), hB⟩
    case round =>
      clear hO hB
      obtain ⟨j, hj, hO, hB⟩ := hrel
      have hsz := hB.size
      obtain ⟨A2, c2, rfl, -, -, -⟩ := hO.out.rd
      replace hO := hO.out
      have hlen : (ws ++ List.replicate j 0).length = n + j := by rw [List.length_append, List.length_replicate, hn.out]
      rw [hlen] at hO ⊢
      replace hO := hide hO
      replace hlen := hide hlen
      by_cases hlt : n + j ≤ q
      · have hlt' : ((n + j : Nat) : Int) ≤ (q : Int) := by omega
        have hon := own_new (base := 0) (e := 43) wE wr 0 wr.heap.size rfl (Nat.zero_le _)
        obtain ⟨A4, c4, hv1, hr4, -, -⟩ := hon.rd
        injection hv1 with hv2 hv3 hv4
        subst hv2
        clear hon hv3 hv4
        replace hr4 := hide hr4
        have hO1 := hide (hO.out.alloc (.cells (wE.cs 0).toArray 43))
        generalize hnj : n + j = nj at *
        replace hnj := hide hnj
        go_wp2_with (at_builtin; refine wpList_app tyW rfl (.tmp 15) (.tmp 16) rfl rfl hO1.out rfl hr4.out rfl (by have := hlen.out; simp at this ⊢; omega) (by simp; omega) ?_)
        intro v' w' hown' hg hne' hnil
        have hB' : Ext w w' := Own.below hO1.out (hB.alloc hsz _) hg (by simp; omega)
        have hown2 : Hid (Own wE 43 w.heap.size w' v' (ws ++ List.replicate (j + 1) 0)) := hide (by rw [List.replicate_succ']; exact hown')
        obtain ⟨A5, c5, rfl, -, -, -⟩ := hown2.out.rd
        have hl5 : (ws ++ List.replicate (j + 1) 0).length = nj + 1 := by have := hlen.out; simp at this ⊢; omega
        replace hown2 := hown2.out
        rw [hl5] at hown2 ⊢
        have hj5 : j + 1 ≤ q + 1 - n := by have := hnj.out; omega
        replace hown2 := hide hown2
        clear hown' hne' hnil hg hO1 hr4
        go_wp2
        refine ⟨?_, ?_⟩
        · first
            | exact ⟨j + 1, hj5, hown2, hB'⟩
            | ((repeat apply Exists.intro); exact ⟨⟨j + 1, hj5, hown2, hB'⟩, rfl⟩)
        · first | (simp [intOf, lenV]; omega) | (simp [intOf]; omega) | (simp [intOf]; done)
      · have hlt' : ¬ ((n + j : Nat) : Int) ≤ (q : Int) := by omega
        have hpad : padW ws k = ws ++ List.replicate j 0 := by
          unfold padW
          congr 2
          rw [← hq.out, ← hn.out]
          omega
        generalize hnj : n + j = nj at *
        replace hnj := hide hnj
        rw [← hpad] at hO
        replace hpad := hide hpad
        go_wp2
        go_meet
        case rel => exact ⟨hO, hB⟩
  case rest =>
    clear hO hB
    obtain ⟨hO, hB⟩ := hcut
    obtain ⟨A2, c2, rfl, hrd, -, -⟩ := hO.out.rd
    have hpl : q < (padW ws k).length := by rw [hq.out]; exact padW_length ws k
    obtain ⟨x, hx⟩ := get_some (xs := padW ws k) (i := q) hpl
    have hxw : x = wat ws (k / 64) := by rw [← padW_wat ws k, ← hq.out]; unfold wat; rw [hx]; rfl
    have hx64 : x < 18446744073709551616 := by rw [hxw]; exact wat_fit hf _
    have h2r : 2 ^ r < 18446744073709551616 := Nat.pow_lt_pow_right (by decide) hr64
    obtain ⟨y, hy⟩ : ∃ y, y = 2 ^ r := ⟨_, rfl⟩
    rw [← hy] at h2r
    obtain ⟨b2, o2, rfl, ra⟩ := hrd.at_ (i := q) hpl
    obtain ⟨g, u, hgA, hg1, hg2, hg3, hg4, hS⟩ := hO.out.setWord hpl (J x y)
    cases hgA
    have hxc := ra.word hx
    have hT : turnW J ws k = (padW ws k).set q (J x y) := by unfold turnW; rw [← hq.out, ← hr.out, hxw, ← hy, hq.out]
    rw [← hT] at hS
    replace hT := hide hT
    replace hS := hide hS
    replace ra := hide ra
    clear hrd
    generalize hpn : (padW ws k).length = np at *
    rw [Nat.zero_add] at hxc
    clear hg3
    have u5 : IntKind.i64.wrap (q : Int) = (q : Int) := IntWalk.i64_in _ (by omega)
    have u6 : (q : Int) < (np : Int) := by omega
    have u8 : IntKind.u64.wrap ((2 : Int) ^ r) = (y : Int) := by
      have e : ((2 : Int) ^ r) = ((2 ^ r : Nat) : Int) := by simp
      rw [e, ← hy, IntKind.wrap_u64]
      omega
    have u7 : IntKind.i64.wrap (r : Int) = (r : Int) := IntWalk.i64_in _ (by omega)
    replace hx := hide hx
    replace hxw := hide hxw
    replace hpn := hide hpn
    replace hy := hide hy
    go_wp2
    refine wp_region_mix (fun _ => True) [(0, true), (1, true), (2, true), (3, true), (4, true), (5, true), (6, true), (7, true), (9, true), (10, true), (11, true), (8, false), (12, false), (13, true), (14, false)] (by kernel_rfl) (by kernel_rfl) (by kernel_rfl) (by kernel_rfl) (fun _ _ d _ _ h => by cases d <;> exact h) trivial ?_
    iterate 8
      apply mix_q rfl rfl
      · intro W _
        go_simp
        try exact rfl
      simp only [Act.put, List.setIfInBounds_toArray, List.set_cons_zero, List.set_cons_succ]
    iterate 3
      apply mix_q rfl rfl
      · intro W _
        go_simp
        try exact rfl
      simp only [Act.put, List.setIfInBounds_toArray, List.set_cons_zero, List.set_cons_succ]
    iterate 1
      refine mix_w rfl rfl (fun K hK => ?_)
      go_simp
      refine hK _ _ trivial ?_
      clear hK K
      try simp only [Act.put, List.setIfInBounds_toArray, List.set_cons_zero, List.set_cons_succ]
    refine mix_w rfl rfl (fun K hK => ?_)
    go_simp
    refine (hJ x y hx64 h2r _).mono ?_
    rintro e w5 ⟨rfl, rfl⟩
    refine hK _ _ trivial ?_
    clear hK K
    try simp only [Act.put, List.setIfInBounds_toArray, List.set_cons_zero, List.set_cons_succ]
    iterate 1
      apply mix_q rfl rfl
      · intro W _
        go_simp
        try exact rfl
      simp only [Act.put, List.setIfInBounds_toArray, List.set_cons_zero, List.set_cons_succ]
    iterate 1
      refine mix_w rfl rfl (fun K hK => ?_)
      go_simp
      refine hK _ _ trivial ?_
      clear hK K
      try simp only [Act.put, List.setIfInBounds_toArray, List.set_cons_zero, List.set_cons_succ]
    refine mix_nil ?_
    go_wp2
    go_ret
    exact ⟨_, rfl, hS.out, hB.drew.setCell hg1 _⟩
theorem at_any (A : Option Addr) (n c : Nat) (ws : List Nat) (i : Nat) (w : World) (h : Rd wE w.heap.size w A ws) (hn : n = ws.length) (hi : i ≤ 1000000) :
    Calls Tryd.prog 59 #[.slice A n c, .int .i64 i] w fun e w' => e = .returned (.int .u64 ((wat ws i : Nat) : Int)) ∧ w' = w := by
  have u5 : IntKind.i64.wrap (i : Int) = (i : Int) := IntWalk.i64_in _ (by omega)
  by_cases hlt : i < n
  · obtain ⟨b, off, rfl, ra⟩ := h.at_ (i := i) (by rw [← hn]; exact hlt)
    obtain ⟨x, hx⟩ := get_some (xs := ws) (i := i) (by rw [← hn]; exact hlt)
    have hxc := ra.word hx
    have hb := ra.1
    have hw : wat ws i = x := by unfold wat; rw [hx]; rfl
    rw [hw]
    have hlt' : (i : Int) < (n : Int) := by omega
    clear h ra hx hw hn
    go_enter Tryd.func59, Tryd.ntmps59
    go_wp2
    go_ret
    exact ⟨rfl, rfl⟩
  · have hw : wat ws i = 0 := by unfold wat; rw [List.getElem?_eq_none (by omega)]; rfl
    rw [hw]
    have hlt' : ¬ (i : Int) < (n : Int) := by omega
    clear h hw hn
    go_enter Tryd.func59, Tryd.ntmps59
    go_wp2
    go_ret
    exact ⟨rfl, rfl⟩
theorem enter_at (args : Array Value) (w : World) : (callFunc 59 args).run Tryd.prog w = .ok (.enter 59 args) w := enters_of Tryd.func59 (by kernel_rfl) rfl args w
def rowJ (J : Nat → Nat → Nat) (a b : List Nat) (m k : Nat) : List Nat := (List.range m).map fun i => if i < k then J (wat a i) (wat b i) else 0
def joinL (J : Nat → Nat → Nat) (a b : List Nat) : List Nat := rowJ J a b (max a.length b.length) (max a.length b.length)
theorem rowJ_zero (J : Nat → Nat → Nat) (a b : List Nat) (m : Nat) : rowJ J a b m 0 = List.replicate m 0 := by
  unfold rowJ
  apply List.ext_getElem
  · simp
  · intro i h1 h2
    simp
theorem rowJ_length (J : Nat → Nat → Nat) (a b : List Nat) (m k : Nat) : (rowJ J a b m k).length = m := by unfold rowJ; simp
theorem rowJ_succ (J : Nat → Nat → Nat) (a b : List Nat) (m k : Nat) : (rowJ J a b m k).set k (J (wat a k) (wat b k)) = rowJ J a b m (k + 1) := by
  unfold rowJ
  apply List.ext_getElem
  · simp
  · intro i h1 h2
    rw [List.getElem_set]
    simp only [List.getElem_map, List.getElem_range]
    by_cases h : k = i
    · subst h; simp
    · rw [if_neg h]
      by_cases h2 : i < k
      · rw [if_pos h2, if_pos (by omega)]
      · rw [if_neg h2, if_neg (by omega)]
theorem rowJ_fit {J : Nat → Nat → Nat} (hJ : ∀ x y, x < 18446744073709551616 → y < 18446744073709551616 → J x y < 18446744073709551616) {a b : List Nat} (ha : Fit a) (hb : Fit b) (m k : Nat) : Fit (rowJ J a b m k) := by
  intro x hx
  unfold rowJ at hx
  obtain ⟨i, -, rfl⟩ := List.mem_map.1 hx
  split
  · exact hJ _ _ (wat_fit ha i) (wat_fit hb i)
  · decide
set_option maxRecDepth 100000 in
set_option maxHeartbeats 2000000 in
theorem joined_any (f : FuncId) (J : Nat → Nat → Nat) (hJ : Joins f J) (he : ∀ (args : Array Value) (w : World), (callFunc f args).run Tryd.prog w = .ok (.enter f args) w)
    (A1 A2 : Option Addr) (n1 c1 n2 c2 : Nat) (ws vs : List Nat) (w : World) (h1 : Rd wE w.heap.size w A1 ws) (hn1 : n1 = ws.length) (hl1 : n1 ≤ 1000) (hf1 : Fit ws) (h2 : Rd wE w.heap.size w A2 vs) (hn2 : n2 = vs.length) (hl2 : n2 ≤ 1000) (hf2 : Fit vs) :
    Calls Tryd.prog 51 #[.slice A1 n1 c1, .slice A2 n2 c2, .func (.func f) #[] #[]] w fun e w' => ∃ v, e = .returned (.agg #[v]) ∧ Own wE 43 w.heap.size w' v (trimW (joinL J ws vs)) ∧ Ext w w' := by
  replace h1 := hide h1
  replace h2 := hide h2
  replace hn1 := hide hn1
  replace hn2 := hide hn2
  obtain ⟨m, hm⟩ : ∃ m, m = max n1 n2 := ⟨_, rfl⟩
  have u1 : max (n1 : Int) (n2 : Int) = (m : Int) := by omega
  have hm1 : m ≤ 1000 := by omega
  have hmJ : Hid (joinL J ws vs = rowJ J ws vs m m) := hide (by unfold joinL; rw [← hn1.out, ← hn2.out, ← hm])
  replace hm := hide hm
  have hat := enter_at
  go_enter Tryd.func51, Tryd.ntmps51
  go_upto_region 1 with fail
  obtain ⟨w0, hw0⟩ : ∃ w0, w0 = w.alloc (.cells #[.slice none 0 0] 24) := ⟨_, rfl⟩
  rw [← hw0]
  have hE0 : Ext w w0 := by rw [hw0]; exact (Below.refl _ _).alloc (Nat.le_refl _) _
  have hb0 : w.heap.size < w0.heap.size := by rw [hw0]; simp
  have hbx : Hid (Box w0 w.heap.size 24 (.slice none 0 0)) := hide (by rw [hw0]; exact Box.new _ _ _)
  clear hw0
  go_wp2_with (at_make; refine wpList_make (base := w.heap.size) (z0 := (0 : Nat)) (n := m) tyW rfl (.tmp 14) (.tmp 14) rfl zero_w rfl rfl rfl rfl (by omega) (Nat.le_of_lt hb0) ?_)
  intro w2 hO hg
  have hB2 := hE0.trans ((grown_none hg).mono hE0.size)
  have hbx2 := hide (hbx.out.ext (grown_none hg))
  obtain ⟨g, hgeq⟩ : ∃ g, g = w0.heap.size := ⟨_, rfl⟩
  rw [← hgeq] at hO hb0 ⊢
  have hne : Hid (w.heap.size ≠ g) := hide (by omega)
  have hO2 : Hid (Own wE 43 w.heap.size w2 (.slice (some ⟨g, 0, none⟩) m m) (rowJ J ws vs m 0)) := hide (by rw [rowJ_zero]; exact hO)
  clear hg hbx hE0 hO hgeq
  go_wp2
  go_loopw [18] (fun o wr => ∃ k : Nat, k ≤ m ∧ o = .int .i64 k ∧ Hid (Own wE 43 w.heap.size wr (.slice (some ⟨g, 0, none⟩) m m) (rowJ J ws vs m k)) ∧ Hid (Box wr w.heap.size 24 (.slice none 0 0)) ∧ Ext w wr) (fun o _ => m - (intOf o).toNat)
  case atStart => exact ⟨0, Nat.zero_le _, rfl, hO2, hbx2, hB2⟩
  case round =>
    clear hO2 hbx2 hB2
    obtain ⟨k, hk, rfl, hO, hbx, hB⟩ := hrel
    have hsz := hB.size
    by_cases hlt : k < m
    · have hlt' : (k : Int) < (m : Int) := by omega
      have u5 : IntKind.i64.wrap (k : Int) = (k : Int) := IntWalk.i64_in _ (by omega)
      obtain ⟨g', u, hgA, hg1, hg2, hg3, hg4, hS⟩ := hO.out.setWord hlt (J (wat ws k) (wat vs k))
      cases hgA
      rw [rowJ_succ] at hS
      have hbx3 := hide (hbx.out.far (p := ⟨g, k, none⟩) hne.out (.int .u64 ((J (wat ws k) (wat vs k) : Nat) : Int)))
      have hB3 : Ext w (wr.setCell ⟨g, k, none⟩ (.int .u64 ((J (wat ws k) (wat vs k) : Nat) : Int))) := hB.setCell hg1 _
      replace hS := hide hS
      go_wp2_with fail
      refine (at_any A1 n1 c1 ws k _ (h1.out.ext hB) hn1.out (by omega)).mono ?_
      rintro e w4 ⟨rfl, rfl⟩
      go_wp2_with fail
      refine (at_any A2 n2 c2 vs k _ (h2.out.ext hB) hn2.out (by omega)).mono ?_
      rintro e w4 ⟨rfl, rfl⟩
      go_wp2_with fail
      refine (hJ _ _ (wat_fit hf1 k) (wat_fit hf2 k) _).mono ?_
      rintro e w4 ⟨rfl, rfl⟩
      go_wp2
      refine ⟨?_, ?_⟩
      · first
          | exact ⟨k + 1, by omega, by go_num, hS, hbx3, hB3⟩
          | ((repeat apply Exists.intro); exact ⟨⟨k + 1, by omega, by go_num, hS, hbx3, hB3⟩, rfl⟩)
      · first | (simp [intOf, lenV]; omega) | (simp [intOf]; omega) | (simp [intOf]; done)
    · obtain rfl : k = m := by omega
      rw [← hmJ.out] at hO
      obtain ⟨A9, c9, hv9, hr9, -, -⟩ := hO.out.rd
      injection hv9 with e1 e2 e3
      subst e1
      have hjl : k = (joinL J ws vs).length := e2
      clear e3 e2
      replace hjl := hide hjl
      replace hr9 := hide hr9
      go_wp2_with fail
      refine (made_any _ k k (joinL J ws vs) _ hr9.out hjl.out (by omega) (Nat.le_refl _)).mono ?_
      rintro e w4 ⟨v4, rfl, hO4, hE4⟩
      have hbx4 := hide (hbx.out.ext hE4)
      have hB4 := hB.trans (hE4.mono hsz)
      have hcb := hbx4.out.cell
      have hfb := hbx4.out.free
      have hsz4 := hbx4.out.lt
      have hO5 := hide ((hO4.base_le hsz).set hbx4.out (by decide) v4)
      have hbx5 := hide (hbx4.out.set v4)
      have hc4 : v4.cells = #[v4] := by
        obtain ⟨A7, c7, rfl, -⟩ := hO4.rd
        rfl
      obtain ⟨A7, c7, rfl, -, -, -⟩ := hO4.rd
      clear hO4
      go_wp2
      refine bodyPost_ret (results_cell_row rfl _ _ w.heap.size 24 _ _ _ rfl hbx5.out Tryd.underlying24 rfl (by kernel_rfl)) rfl ?_
      exact ⟨_, rfl, hO5.out, hB4.setCell (Nat.le_refl _) _⟩
end Go.Proofs.YtkiklbngfocljaaDoor
