/- NamesPuts: the walk. -/
import Derived.Test.YtpfmbehhppbcnaaDoorNamV
import Derived.Test.YtpfmbehhppbcnaaDoorNamY
import Derived.Test.YtpfmbehhppbcnaaDoorFlt
namespace Go.Proofs.YtpfmbehhppbcnaaDoor
open Go.RowKit

/-- one element of a row of texts of the call's own, stored anew -/
theorem Own.setStr {e : TypeId} {base : Nat} {w : World} {A : Option Addr} {n c : Nat} {xs : List ByteArray} (h : Own strE e base w (.slice A n c) xs) {i : Nat} (hi : i < n) (x : ByteArray) :
    ∃ g u, A = some ⟨g, 0, none⟩ ∧ base ≤ g ∧ g < w.heap.size ∧ w.cell? ⟨g, i, none⟩ = some u ∧ w.frozen? ⟨g, i, none⟩ = false ∧ Own strE e base (w.setCell ⟨g, i, none⟩ (.string x)) (.slice A n c) (xs.set i x) := by
  obtain ⟨hl, h2⟩ := h
  rcases h2 with ⟨h1, h2⟩ | ⟨g, cap, cur, h1, hb, hg, hnc, hcm, hsz, hcur⟩
  · injection h1 with h3 h4 h5
    omega
  · injection h1 with h3 h4 h5
    subst h3 h5
    have hgs : g < w.heap.size := by
      rcases Nat.lt_or_ge g w.heap.size with hlt | hge
      · exact hlt
      · rw [Array.getElem?_eq_none hge] at hg
        cases hg
    have hic : i < cur.size := by rw [hsz]; show i < _ * 1; omega
    have hrow : strE.row (xs.set i x) = (strE.row xs).set i (.string x) := by
      have hr : ∀ l : List ByteArray, strE.row l = l.map Value.string := fun l => by
        induction l with
        | nil => rfl
        | cons y ys ih => rw [El.row_cons, ih]; rfl
      rw [hr, hr, List.map_set]
    refine ⟨g, cur[i], rfl, hb, hgs, ?_, ?_, ?_⟩
    · unfold World.cell?
      rw [hg]
      simp [hic]
    · unfold World.frozen?
      rw [hg]
      simp
    unfold Own
    rw [List.length_set]
    refine ⟨by rw [El.row_length, List.length_set], .inr ⟨g, c, cur.setIfInBounds i (.string x), by rw [h4], hb, ?_, by omega, hcm, by rw [Array.size_setIfInBounds]; exact hsz, ?_⟩⟩
    · show (w.heap.modify g _)[g]? = _
      rw [Array.getElem?_modify, if_pos rfl, hg]
      rfl
    · rw [Array.toList_setIfInBounds, List.take_set, hcur, hrow]
theorem grown_set (w : World) (g i : Nat) (u : Value) : w.grownBy (w.setCell ⟨g, i, none⟩ u) (some g) :=
  ⟨rfl, rfl, rfl, (KeepsWalks.setCell w _ u).size, fun k _ hk => Below.heap_setCell _ _ _ k (fun e => hk (by rw [e]))⟩
theorem own_after {α β : Type} {E : El α} {E' : El β} {e e' : TypeId} {b b' : Nat} {w w' : World} {v v' : Value} {xs : List α} {ys : List β} (h : Own E e b w v xs) (h' : Own E' e' b' w' v' ys) (hb : w.heap.size ≤ b') : v'.ownBlock = none ∨ v'.ownBlock ≠ v.ownBlock := by
  cases hv : v'.ownBlock with
  | none => exact .inl rfl
  | some k =>
    refine .inr fun he => ?_
    have h1 := (h'.lt k hv).1
    have h2 := (h.lt k he.symm).2
    omega
theorem moveE_noA {a b : List ByteArray} (h : fineB a = false) : moveE a b = 201 := by unfold moveE; rw [h]; rfl
theorem moveE_noB {a b : List ByteArray} (h : fineB b = false) : moveE a b = 201 := by unfold moveE; rw [h, Bool.and_false]; rfl
theorem moveE_sub {a b : List ByteArray} (h1 : fineB a = true) (h2 : fineB b = true) : moveE a b = if subB a b = true then 0 else 4 := by unfold moveE subB; rw [h1, h2]; rfl
theorem putN_no {a : List ByteArray} {s : ByteArray} (h : fineB a = false) : putN a s = ([], 0, 201) := by unfold putN; rw [if_pos h]
theorem putN_yes {a : List ByteArray} {s : ByteArray} (h : fineB a = true) : putN a s = putR a s := by unfold putN; rw [if_neg (by rw [h]; decide)]
theorem putR_len {a g : List ByteArray} {s : ByteArray} {p z : Int} (hf : fineB a = true) (h : putR a s = (g, p, z)) : g.length ≤ 301 := by
  have hl := (fine_parts hf).2.2
  unfold putR at h
  split at h
  · injection h with e1; subst e1; simp
  · split at h
    · injection h with e1; subst e1; omega
    · split at h
      · injection h with e1; subst e1; simp
      · injection h with e1; subst e1; rw [List.length_append, List.length_singleton]; omega
set_option maxRecDepth 100000 in
set_option maxHeartbeats 8000000 in
theorem namesPuts_any (A1 A2 A3 : Option Addr) (n1 c1 n2 c2 n3 c3 : Nat) (xs ys zs : List ByteArray) (w : World) (hn1 : n1 = xs.length) (hc1 : n1 ≤ c1) (h1 : Rd strE w.heap.size w A1 xs) (hfx : ∀ x ∈ xs, x.size ≤ maxLen)
    (hn2 : n2 = ys.length) (hc2 : n2 ≤ c2) (h2 : Rd strE w.heap.size w A2 ys) (hfy : ∀ x ∈ ys, x.size ≤ maxLen) (hn3 : n3 = zs.length) (hm3 : n3 ≤ maxLen) (h3 : Rd strE w.heap.size w A3 zs) (hfz : ∀ x ∈ zs, x.size ≤ maxLen) (hL : LaidU w) :
    Calls Tryd.prog 6 #[.agg #[.slice A1 n1 c1], .agg #[.slice A2 n2 c2], .slice A3 n3 c3] w fun e w' => e = .returned (.bool true) ∧ Ext w w' := by
  replace h1 := hide h1
  replace hn1 := hide hn1
  replace h2 := hide h2
  replace hn2 := hide hn2
  replace h3 := hide h3
  replace hn3 := hide hn3
  replace hL := hide hL
  go_enter Tryd.func6, Tryd.ntmps6
  go_upto_region 1 with fail
  obtain ⟨w0, hw0⟩ : ∃ w0, w0 = (w.alloc (.cells #[.slice A1 n1 c1] 27)).alloc (.cells #[.slice A2 n2 c2] 27) := ⟨_, rfl⟩
  rw [← hw0]
  have hE0 : Ext w w0 := by rw [hw0]; exact ((Below.refl _ _).alloc (Nat.le_refl _) _).alloc (by simp) _
  have X3 : Hid (Box w0 w.heap.size 27 (.slice A1 n1 c1)) := hide (by rw [hw0]; exact (Box.new w _ _).alloc _)
  have X4 : Hid (Box w0 (w.heap.size + 1) 27 (.slice A2 n2 c2)) := hide (by
    rw [hw0]
    have := Box.new (w.alloc (.cells #[.slice A1 n1 c1] 27)) 27 (.slice A2 n2 c2)
    rw [World.size_alloc] at this
    exact this)
  clear hw0
  obtain ⟨p3, hp3⟩ : ∃ b, b = w.heap.size := ⟨_, rfl⟩
  rw [← hp3] at X3 X4 ⊢
  obtain ⟨p4, hp4⟩ : ∃ b, b = p3 + 1 := ⟨_, rfl⟩
  rw [← hp4] at X4 ⊢
  clear hp3 hp4
  go_wp2_with fail
  refine (wakes_any _ (hL.out.ext hE0)).mono ?_
  rintro e w1 ⟨rfl, hE1⟩
  replace X3 := hide (X3.out.ext hE1)
  replace X4 := hide (X4.out.ext hE1)
  have hB := hide (hE0.trans (hE1.mono hE0.size))
  clear hE0 hE1
  go_upto_region 3 with fail
  refine wp_region_flt [(some 7, 4), (some 8, 5)] (fun _ => .cells #[.slice none 0 0] 27) [(0, true), (2, true), (1, false), (3, false)] [(6, false), (7, false)] (fun _ => undef) (by kernel_rfl) (by kernel_rfl) (by kernel_rfl) (by kernel_rfl) (by kernel_rfl) (fun _ _ d _ _ h => by cases d <;> exact h) ?_ rfl ?_
  · refine floats_of (by kernel_rfl) ?_ (by decide) (by decide) (by decide)
    intro p hp
    simp only [List.mem_cons, List.not_mem_nil, or_false] at hp
    rcases hp with rfl | rfl
    all_goals
      intro K a w h
      refine flt_lay rfl rfl ?_
      go_simp
      exact h
  obtain ⟨wd, hwd⟩ : ∃ x, x = w1.drew := ⟨_, rfl⟩
  rw [← hwd]
  have hEd : Ext w1 wd := by rw [hwd]; exact (Below.refl _ _).drew
  clear hwd
  replace X3 := hide (X3.out.ext hEd)
  replace X4 := hide (X4.out.ext hEd)
  replace hB := hide (hB.out.trans (hEd.mono hB.out.size))
  replace h1 := hide (h1.out.ext hB.out)
  replace h2 := hide (h2.out.ext hB.out)
  replace h3 := hide (h3.out.ext hB.out)
  replace hL := hide (hL.out.ext hB.out)
  clear hEd
  have T : Ext wd wd := Below.refl _ _
  have k3 := X3.out.cell
  have s3 := X3.out.lt
  have k4 := X4.out.cell
  have s4 := X4.out.lt
  iterate 2
    apply flt_q rfl rfl
    · intro x W hW
      have hcW : ∀ (b o : Nat), b < (World.heap wd).size → W.cell? ⟨b, o, none⟩ = World.cell? wd ⟨b, o, none⟩ := (bcell hW).1
      simp only [puts, Act.put, List.setIfInBounds_toArray, List.set_cons_zero, List.set_cons_succ]
      go_simp
      try exact rfl
    simp only [Act.put, List.setIfInBounds_toArray, List.set_cons_zero, List.set_cons_succ]
  have hfa : ∀ x ∈ xs.take 301, x.size ≤ maxLen := fun x hx => hfx x (List.mem_of_mem_take hx)
  have hla : (xs.take 301).length ≤ 301 := by rw [List.length_take]; omega
  have hfb : ∀ x ∈ ys.take 301, x.size ≤ maxLen := fun x hx => hfy x (List.mem_of_mem_take hx)
  have hlb : (ys.take 301).length ≤ 301 := by rw [List.length_take]; omega
  have ⟨a0, ha⟩ : ∃ a, a = xs.take 301 := ⟨_, rfl⟩
  have ⟨b, hb⟩ : ∃ b, b = ys.take 301 := ⟨_, rfl⟩
  rw [← ha] at hfa hla
  rw [← hb] at hfb hlb
  replace ha := hide ha
  replace hb := hide hb
  refine flt_w rfl rfl fun W x hE K hK => ?_
  simp only [puts, Act.put, List.setIfInBounds_toArray, List.set_cons_zero, List.set_cons_succ]
  go_simp
  replace T := T.trans (hE.mono T.size)
  refine (own_any A1 n1 c1 xs _ (h1.out.ext T) hn1.out hc1).mono ?_
  rintro e w2 ⟨v, rfl, hO, hE2⟩
  refine hK _ _ hE2 (by simp only [puts, Act.put, List.setIfInBounds_toArray, List.set_cons_zero, List.set_cons_succ]) ?_
  clear hK K
  replace T := T.trans (hE2.mono T.size)
  try simp only [Act.put, List.setIfInBounds_toArray, List.set_cons_zero, List.set_cons_succ]
  rw [← ha.out] at hO
  obtain ⟨A7, c7, rfl, -, hc7, -⟩ := hO.rd
  obtain ⟨n7, e7⟩ : ∃ m, m = (List.length a0) := ⟨_, rfl⟩
  rw [← e7] at hc7 ⊢
  have r7 := hO.base_le (Nat.zero_le _)
  rw [← e7] at r7
  replace r7 := hide r7
  replace e7 := hide e7
  clear hO hE hE2
  refine flt_w rfl rfl fun W x hE K hK => ?_
  simp only [puts, Act.put, List.setIfInBounds_toArray, List.set_cons_zero, List.set_cons_succ]
  go_simp
  replace T := T.trans (hE.mono T.size)
  refine (own_any A2 n2 c2 ys _ (h2.out.ext T) hn2.out hc2).mono ?_
  rintro e w3 ⟨v, rfl, hO, hE2⟩
  refine hK _ _ hE2 (by simp only [puts, Act.put, List.setIfInBounds_toArray, List.set_cons_zero, List.set_cons_succ]) ?_
  clear hK K
  replace T := T.trans (hE2.mono T.size)
  try simp only [Act.put, List.setIfInBounds_toArray, List.set_cons_zero, List.set_cons_succ]
  rw [← hb.out] at hO
  replace r7 := hide ((r7.out.ext hE).ext hE2)
  obtain ⟨A8, c8, rfl, -, hc8, -⟩ := hO.rd
  obtain ⟨n8, e8⟩ : ∃ m, m = (List.length b) := ⟨_, rfl⟩
  rw [← e8] at hc8 ⊢
  have r8 := hO.base_le (Nat.zero_le _)
  rw [← e8] at r8
  replace r8 := hide r8
  replace e8 := hide e8
  clear hE hE2 hO
  refine flt_end fun W x hE hA => ?_
  simp only [puts, Act.put, List.setIfInBounds_toArray, List.set_cons_zero, List.set_cons_succ]
  obtain ⟨p7, e1, X7, l7⟩ := hA.1 4 (by simp)
  obtain ⟨p8, e2, X8, l8⟩ := hA.1 5 (by simp)
  have d78 : p7 ≠ p8 := fun h => hA.2 4 (by simp) 5 (by simp) (by decide) (by rw [e1, e2, h])
  rw [e1, e2]
  replace X7 : Hid (Box W p7 27 (.slice none 0 0)) := hide X7
  replace X8 : Hid (Box W p8 27 (.slice none 0 0)) := hide X8
  replace r7 := hide (r7.out.ext hE)
  replace r8 := hide (r8.out.ext hE)
  replace T := T.trans (hE.mono T.size)
  replace l7 : wd.heap.size ≤ p7 := l7
  replace l8 : wd.heap.size ≤ p8 := l8
  clear hA hE e1 e2
  have hcb := X7.out.cell
  have hfb := X7.out.free
  have hsb := X7.out.lt
  refine mix_w rfl rfl (fun K hK => ?_)
  go_simp
  refine hK _ _ ?_ ?_
  · exact T.setCell (p := ⟨p7, 0, none⟩) l7 _
  clear hK K
  try simp only [Act.put, List.setIfInBounds_toArray, List.set_cons_zero, List.set_cons_succ]
  obtain ⟨w5, hN⟩ : ∃ x, x = World.setCell W ⟨p7, 0, none⟩ (.slice A7 n7 c7) := ⟨_, rfl⟩
  rw [← hN]
  replace T : Ext wd w5 := by rw [hN]; exact T.setCell (p := ⟨p7, 0, none⟩) l7 _
  replace r7 := hide (by rw [hN]; exact r7.out.set X7.out (by decide) _ : Own strE 9 0 w5 (.slice A7 n7 c7) a0)
  replace r8 := hide (by rw [hN]; exact r8.out.set X7.out (by decide) _ : Own strE 9 0 w5 (.slice A8 n8 c8) b)
  replace X7 : Hid (Box w5 p7 27 (.slice A7 n7 c7)) := hide (by rw [hN]; exact X7.out.set _)
  replace X8 := hide (by rw [hN]; exact X8.out.far (p := ⟨p7, 0, none⟩) (Ne.symm d78) _ : Box w5 p8 27 (.slice none 0 0))
  clear hN hcb hfb hsb
  have hcb := X8.out.cell
  have hfb := X8.out.free
  have hsb := X8.out.lt
  refine mix_w rfl rfl (fun K hK => ?_)
  go_simp
  refine hK _ _ ?_ ?_
  · exact T.setCell (p := ⟨p8, 0, none⟩) l8 _
  clear hK K
  try simp only [Act.put, List.setIfInBounds_toArray, List.set_cons_zero, List.set_cons_succ]
  obtain ⟨w6, hN⟩ : ∃ x, x = World.setCell w5 ⟨p8, 0, none⟩ (.slice A8 n8 c8) := ⟨_, rfl⟩
  rw [← hN]
  replace T : Ext wd w6 := by rw [hN]; exact T.setCell (p := ⟨p8, 0, none⟩) l8 _
  replace r7 := hide (by rw [hN]; exact r7.out.set X8.out (by decide) _ : Own strE 9 0 w6 (.slice A7 n7 c7) a0)
  replace r8 := hide (by rw [hN]; exact r8.out.set X8.out (by decide) _ : Own strE 9 0 w6 (.slice A8 n8 c8) b)
  replace X8 : Hid (Box w6 p8 27 (.slice A8 n8 c8)) := hide (by rw [hN]; exact X8.out.set _)
  replace X7 := hide (by rw [hN]; exact X7.out.far (p := ⟨p8, 0, none⟩) d78 _ : Box w6 p7 27 (.slice A7 n7 c7))
  clear hN hcb hfb hsb
  refine mix_nil ?_
  clear h1 hn1 hc1 hfx ha k3 s3 X3 k4 s4
  have hl8 : n8 ≤ 1000000 := by have := e8.out; omega
  have TT := hide T
  clear T
  go_wp2
  go_loopw [32] (fun i wr => ∃ (k n7 c7 : Nat) (A7 : Option Addr) (a : List ByteArray), k ≤ n3 ∧ k ≤ 8 ∧ i = .int .i64 k ∧ Hid (n7 = a.length) ∧ Hid (n7 ≤ 301) ∧ Hid (n7 ≤ c7) ∧ Hid (∀ x ∈ a, x.size ≤ maxLen) ∧ Hid (Own strE 9 0 wr (.slice A7 n7 c7) a) ∧ Hid (Box wr p7 27 (.slice A7 n7 c7)) ∧ Hid (Own strE 9 0 wr (.slice A8 n8 c8) b) ∧ Hid (Box wr p8 27 (.slice A8 n8 c8)) ∧ Hid (Ext wd wr)) (fun i _ => n3 - (intOf i).toNat)
  case atStart => exact ⟨0, n7, c7, A7, a0, Nat.zero_le _, Nat.zero_le _, rfl, e7, hide (by rw [e7.out]; exact hla), hide hc7, hide hfa, r7, X7, r8, X8, TT⟩
  case round =>
    clear X7 r7 X8 r8 TT hfa hc7 e7 hla
    obtain ⟨k, n7, c7, A7, a, hk, hk8, rfl, e7, l71, hc7, hfa, r7, X7, r8, X8, TT⟩ := hrel
    by_cases hlt : k < n3
    · have hlt' : (k : Int) < (n3 : Int) := by omega
      obtain ⟨bk, off, rfl, ra⟩ := (h3.out.ext TT.out).at_ (i := k) (by rw [← hn3.out]; exact hlt)
      obtain ⟨s, hs⟩ := get_some (xs := zs) (i := k) (by rw [← hn3.out]; exact hlt)
      have hsc := ra.str hs
      have hbr := ra.1
      have hms : s.size ≤ maxLen := hfz s (List.mem_of_getElem? hs)
      replace ra := hide ra
      replace hs := hide hs
      by_cases h8 : k = 8
      · subst h8
        have hlt8 : (8 : Int) < (n3 : Int) := by omega
        rw [show ((8 : Nat) : Int) = 8 from rfl]
        have T : Ext wr wr := Below.refl _ _
        have hl7 : n7 ≤ 1000000 := by have := l71.out; omega
        have k7 := (X7.out.ext T).cell
        have s7 := (X7.out.ext T).lt
        have k8 := (X8.out.ext T).cell
        have s8 := (X8.out.ext T).lt
        obtain ⟨zE, hzE⟩ : ∃ z, z = moveE a b := ⟨_, rfl⟩
        obtain ⟨lq, hlq⟩ : ∃ l, l = moveL a b := ⟨_, rfl⟩
        replace hzE := hide hzE
        replace hlq := hide hlq
        go_wp2_with fail
        refine (move_any A7 A8 n7 c7 n8 c8 a b _ ((rdO r7.out).ext T) e7.out hl7 hfa.out ((rdO r8.out).ext T) e8.out hl8 hfb (hL.out.ext (TT.out.trans (T.mono TT.out.size)))).mono ?_
        rintro e w30 ⟨v, rfl, hO, hE⟩
        rw [← hlq.out] at hO
        rw [← hzE.out]
        replace hO : Own intE 3 _ w30 v lq := hO
        replace T := T.trans (hE.mono T.size)
        clear hE
        obtain ⟨A19, c19, rfl, r19, hc19, -⟩ := hO.rd
        obtain ⟨n19, e19⟩ : ∃ m, m = (List.length lq) := ⟨_, rfl⟩
        rw [← e19] at hc19 ⊢
        replace r19 := hide r19
        replace e19 := hide e19
        clear hO
        clear k7 s7 k8 s8
        have k7 := (X7.out.ext T).cell
        have s7 := (X7.out.ext T).lt
        have k8 := (X8.out.ext T).cell
        have s8 := (X8.out.ext T).lt
        have T30 := hide (Below.refl w30.heap.size w30 : Ext w30 w30)
        go_wp2_with fail
        refine (refRight_any A7 n7 c7 a _ ((rdO r7.out).ext T) e7.out hl7 hc7.out hfa.out (hL.out.ext (TT.out.trans (T.mono TT.out.size)))).mono ?_
        rintro e w31 ⟨rfl, hE⟩
        replace T := T.trans (hE.mono T.size)
        replace r19 := hide (r19.out.ext hE)
        clear hE
        clear k7 s7 k8 s8
        cases hf : fineB a with
        | false =>
          obtain rfl : zE = 201 := hzE.out.trans (moveE_noA hf)
          obtain rfl : lq = [] := hlq.out.trans (moveL_no (by rw [← hzE.out]; decide))
          obtain rfl : n19 = 0 := e19.out
          have hl19 : 0 ≤ 1000000 := by decide
          replace hf := hide hf
          go_upto_region 34 with fail
          have T2 := hide T
          have k8 := (X8.out.ext T).cell
          have s8 := (X8.out.ext T).lt
          have k4 := (X4.out.ext (TT.out.trans (T2.out.mono TT.out.size))).cell
          have s4 := (X4.out.ext (TT.out.trans (T2.out.mono TT.out.size))).lt
          have g2 := hide (h2.out.ext (TT.out.trans (T2.out.mono TT.out.size)))
          have g8 := hide ((rdO r8.out).ext T2.out)
          clear T
          have T : Ext w31 w31.drew := (Below.refl _ _).drew
          refine wp_region_mix (fun W => Below w31.heap.size w31 W) [(0, true), (1, true), (2, true), (3, true), (4, true), (5, true), (6, false), (7, true), (8, true), (9, true), (10, true), (11, false), (12, false), (13, true), (14, true)] (by kernel_rfl) (by kernel_rfl) (by kernel_rfl) (by kernel_rfl) (fun _ _ d _ _ h => by cases d <;> exact h) ?_ ?_
          · exact T
          obtain ⟨wl, hwh⟩ : ∃ x, x = w31.drew := ⟨_, rfl⟩
          rw [← hwh] at T ⊢
          clear hwh
          iterate 4
            apply mix_q rfl rfl
            · intro W hW
              have hcW := (bcell hW).1
              go_simp
              try exact rfl
            simp only [Act.put, List.setIfInBounds_toArray, List.set_cons_zero, List.set_cons_succ]
          iterate 2
            apply mix_on rfl (wanted_is rfl rfl rfl rfl rfl)
            · intro W hW
              have hcW := (bcell hW).1
              go_simp
              try exact rfl
            simp only [Act.put, List.setIfInBounds_toArray, List.set_cons_zero, List.set_cons_succ]
          refine mix_won rfl (wanted_is rfl rfl rfl rfl rfl) (fun K hK => ?_)
          go_simp
          refine (equalI_any A19 none 0 c19 0 0 [] [] _ (r19.out.ext T) (Rd.nil_) e19.out rfl hl19).mono ?_
          rintro e w41 ⟨rfl, hE⟩
          refine hK _ _ (T.trans (hE.mono T.size)) ?_
          clear hK K
          try simp only [Act.put, List.setIfInBounds_toArray, List.set_cons_zero, List.set_cons_succ]
          replace T := T.trans (hE.mono T.size)
          try rw [show decide (([] : List Int) = []) = true from decide_eq_true rfl]
          clear hE
          iterate 2
            apply mix_q rfl rfl
            · intro W hW
              have hcW := (bcell hW).1
              go_simp
              try exact rfl
            simp only [Act.put, List.setIfInBounds_toArray, List.set_cons_zero, List.set_cons_succ]
          iterate 2
            apply mix_on rfl (wanted_is rfl rfl rfl rfl rfl)
            · intro W hW
              have hcW := (bcell hW).1
              go_simp
              try exact rfl
            simp only [Act.put, List.setIfInBounds_toArray, List.set_cons_zero, List.set_cons_succ]
          refine mix_won rfl (wanted_is rfl rfl rfl rfl rfl) (fun K hK => ?_)
          go_simp
          refine (own_any A2 n2 c2 ys _ (g2.out.ext T) hn2.out hc2).mono ?_
          rintro e w42 ⟨v, rfl, hO, hE⟩
          refine hK _ _ (T.trans (hE.mono T.size)) ?_
          clear hK K
          try simp only [Act.put, List.setIfInBounds_toArray, List.set_cons_zero, List.set_cons_succ]
          replace T := T.trans (hE.mono T.size)
          rw [← hb.out] at hO
          obtain ⟨A50, c50, rfl, r50, hc50, -⟩ := hO.rd
          obtain ⟨n50, e50⟩ : ∃ m, m = (List.length b) := ⟨_, rfl⟩
          rw [← e50] at hc50 ⊢
          replace r50 := hide r50
          replace e50 := hide e50
          clear hO
          clear hE
          refine mix_won rfl (wanted_is rfl rfl rfl rfl rfl) (fun K hK => ?_)
          go_simp
          refine (refSame_any A8 A50 n8 c8 n50 c50 b b _ (g8.out.ext T) e8.out hl8 r50.out e50.out).mono ?_
          rintro e w43 ⟨rfl, hE⟩
          refine hK _ _ (T.trans (hE.mono T.size)) ?_
          clear hK K
          try simp only [Act.put, List.setIfInBounds_toArray, List.set_cons_zero, List.set_cons_succ]
          replace T := T.trans (hE.mono T.size)
          try rw [show decide (b = b) = true from decide_eq_true rfl]
          clear hE
          iterate 2
            apply mix_q rfl rfl
            · intro W hW
              have hcW := (bcell hW).1
              go_simp
              try exact rfl
            simp only [Act.put, List.setIfInBounds_toArray, List.set_cons_zero, List.set_cons_succ]
          refine mix_nil ?_
          go_wp2
          go_ret
          exact ⟨rfl, hB.out.trans ((TT.out.trans ((T2.out.trans (T.mono T2.out.size)).mono TT.out.size)).mono hB.out.size)⟩
        | true =>
          replace hf := hide hf
          have k7 := (X7.out.ext T).cell
          have s7 := (X7.out.ext T).lt
          have k8 := (X8.out.ext T).cell
          have s8 := (X8.out.ext T).lt
          go_wp2_with fail
          refine (refRight_any A8 n8 c8 b _ ((rdO r8.out).ext T) e8.out hl8 hc8 hfb (hL.out.ext (TT.out.trans (T.mono TT.out.size)))).mono ?_
          rintro e w32 ⟨rfl, hE⟩
          replace T := T.trans (hE.mono T.size)
          replace r19 := hide (r19.out.ext hE)
          clear hE
          clear k7 s7 k8 s8
          cases hg : fineB b with
          | false =>
            obtain rfl : zE = 201 := hzE.out.trans (moveE_noB hg)
            obtain rfl : lq = [] := hlq.out.trans (moveL_no (by rw [← hzE.out]; decide))
            obtain rfl : n19 = 0 := e19.out
            have hl19 : 0 ≤ 1000000 := by decide
            replace hg := hide hg
            go_upto_region 34 with fail
            have T2 := hide T
            have k8 := (X8.out.ext T).cell
            have s8 := (X8.out.ext T).lt
            have k4 := (X4.out.ext (TT.out.trans (T2.out.mono TT.out.size))).cell
            have s4 := (X4.out.ext (TT.out.trans (T2.out.mono TT.out.size))).lt
            have g2 := hide (h2.out.ext (TT.out.trans (T2.out.mono TT.out.size)))
            have g8 := hide ((rdO r8.out).ext T2.out)
            clear T
            have T : Ext w32 w32.drew := (Below.refl _ _).drew
            refine wp_region_mix (fun W => Below w32.heap.size w32 W) [(0, true), (1, true), (2, true), (3, true), (4, true), (5, true), (6, false), (7, true), (8, true), (9, true), (10, true), (11, false), (12, false), (13, true), (14, true)] (by kernel_rfl) (by kernel_rfl) (by kernel_rfl) (by kernel_rfl) (fun _ _ d _ _ h => by cases d <;> exact h) ?_ ?_
            · exact T
            obtain ⟨wl, hwh⟩ : ∃ x, x = w32.drew := ⟨_, rfl⟩
            rw [← hwh] at T ⊢
            clear hwh
            iterate 4
              apply mix_q rfl rfl
              · intro W hW
                have hcW := (bcell hW).1
                go_simp
                try exact rfl
              simp only [Act.put, List.setIfInBounds_toArray, List.set_cons_zero, List.set_cons_succ]
            iterate 2
              apply mix_on rfl (wanted_is rfl rfl rfl rfl rfl)
              · intro W hW
                have hcW := (bcell hW).1
                go_simp
                try exact rfl
              simp only [Act.put, List.setIfInBounds_toArray, List.set_cons_zero, List.set_cons_succ]
            refine mix_won rfl (wanted_is rfl rfl rfl rfl rfl) (fun K hK => ?_)
            go_simp
            refine (equalI_any A19 none 0 c19 0 0 [] [] _ (r19.out.ext T) (Rd.nil_) e19.out rfl hl19).mono ?_
            rintro e w41 ⟨rfl, hE⟩
            refine hK _ _ (T.trans (hE.mono T.size)) ?_
            clear hK K
            try simp only [Act.put, List.setIfInBounds_toArray, List.set_cons_zero, List.set_cons_succ]
            replace T := T.trans (hE.mono T.size)
            try rw [show decide (([] : List Int) = []) = true from decide_eq_true rfl]
            clear hE
            iterate 2
              apply mix_q rfl rfl
              · intro W hW
                have hcW := (bcell hW).1
                go_simp
                try exact rfl
              simp only [Act.put, List.setIfInBounds_toArray, List.set_cons_zero, List.set_cons_succ]
            iterate 2
              apply mix_on rfl (wanted_is rfl rfl rfl rfl rfl)
              · intro W hW
                have hcW := (bcell hW).1
                go_simp
                try exact rfl
              simp only [Act.put, List.setIfInBounds_toArray, List.set_cons_zero, List.set_cons_succ]
            refine mix_won rfl (wanted_is rfl rfl rfl rfl rfl) (fun K hK => ?_)
            go_simp
            refine (own_any A2 n2 c2 ys _ (g2.out.ext T) hn2.out hc2).mono ?_
            rintro e w42 ⟨v, rfl, hO, hE⟩
            refine hK _ _ (T.trans (hE.mono T.size)) ?_
            clear hK K
            try simp only [Act.put, List.setIfInBounds_toArray, List.set_cons_zero, List.set_cons_succ]
            replace T := T.trans (hE.mono T.size)
            rw [← hb.out] at hO
            obtain ⟨A50, c50, rfl, r50, hc50, -⟩ := hO.rd
            obtain ⟨n50, e50⟩ : ∃ m, m = (List.length b) := ⟨_, rfl⟩
            rw [← e50] at hc50 ⊢
            replace r50 := hide r50
            replace e50 := hide e50
            clear hO
            clear hE
            refine mix_won rfl (wanted_is rfl rfl rfl rfl rfl) (fun K hK => ?_)
            go_simp
            refine (refSame_any A8 A50 n8 c8 n50 c50 b b _ (g8.out.ext T) e8.out hl8 r50.out e50.out).mono ?_
            rintro e w43 ⟨rfl, hE⟩
            refine hK _ _ (T.trans (hE.mono T.size)) ?_
            clear hK K
            try simp only [Act.put, List.setIfInBounds_toArray, List.set_cons_zero, List.set_cons_succ]
            replace T := T.trans (hE.mono T.size)
            try rw [show decide (b = b) = true from decide_eq_true rfl]
            clear hE
            iterate 2
              apply mix_q rfl rfl
              · intro W hW
                have hcW := (bcell hW).1
                go_simp
                try exact rfl
              simp only [Act.put, List.setIfInBounds_toArray, List.set_cons_zero, List.set_cons_succ]
            refine mix_nil ?_
            go_wp2
            go_ret
            exact ⟨rfl, hB.out.trans ((TT.out.trans ((T2.out.trans (T.mono T2.out.size)).mono TT.out.size)).mono hB.out.size)⟩
          | true =>
            have hzs := moveE_sub hf.out hg
            replace hg := hide hg
            have k7 := (X7.out.ext T).cell
            have s7 := (X7.out.ext T).lt
            have k8 := (X8.out.ext T).cell
            have s8 := (X8.out.ext T).lt
            go_wp2_with fail
            refine (refMove_any A7 A8 n7 c7 n8 c8 a b _ ((rdO r7.out).ext T) e7.out hl7 ((rdO r8.out).ext T) e8.out hl8).mono ?_
            rintro e w33 ⟨v, rfl, hO, hE⟩
            replace T := T.trans (hE.mono T.size)
            replace r19 := hide (r19.out.ext hE)
            clear hE
            clear k7 s7 k8 s8
            cases hq : subB a b with
            | true =>
              rw [hq, if_pos rfl] at hzs hO
              obtain rfl : zE = 0 := hzE.out.trans hzs
              rw [← moveL_yes hzE.out.symm, ← hlq.out] at hO
              replace hO : Own intE 3 _ w33 v lq := hO
              have hl19 : n19 ≤ 1000000 := by rw [e19.out, hlq.out, moveL_len hzE.out.symm, ← e7.out]; exact hl7
              replace hq := hide hq
              replace hzs := hide hzs
              obtain ⟨A21, c21, rfl, r21, hc21, -⟩ := hO.rd
              obtain ⟨n21, e21⟩ : ∃ m, m = (List.length lq) := ⟨_, rfl⟩
              rw [← e21] at hc21 ⊢
              replace r21 := hide r21
              replace e21 := hide e21
              clear hO
              go_upto_region 34 with fail
              have T2 := hide T
              have k8 := (X8.out.ext T).cell
              have s8 := (X8.out.ext T).lt
              have k4 := (X4.out.ext (TT.out.trans (T2.out.mono TT.out.size))).cell
              have s4 := (X4.out.ext (TT.out.trans (T2.out.mono TT.out.size))).lt
              have g2 := hide (h2.out.ext (TT.out.trans (T2.out.mono TT.out.size)))
              have g8 := hide ((rdO r8.out).ext T2.out)
              clear T
              have T : Ext w33 w33.drew := (Below.refl _ _).drew
              refine wp_region_mix (fun W => Below w33.heap.size w33 W) [(0, true), (1, true), (2, true), (3, true), (4, true), (5, true), (6, false), (7, true), (8, true), (9, true), (10, true), (11, false), (12, false), (13, true), (14, true)] (by kernel_rfl) (by kernel_rfl) (by kernel_rfl) (by kernel_rfl) (fun _ _ d _ _ h => by cases d <;> exact h) ?_ ?_
              · exact T
              obtain ⟨wl, hwh⟩ : ∃ x, x = w33.drew := ⟨_, rfl⟩
              rw [← hwh] at T ⊢
              clear hwh
              iterate 4
                apply mix_q rfl rfl
                · intro W hW
                  have hcW := (bcell hW).1
                  go_simp
                  try exact rfl
                simp only [Act.put, List.setIfInBounds_toArray, List.set_cons_zero, List.set_cons_succ]
              iterate 2
                apply mix_on rfl (wanted_is rfl rfl rfl rfl rfl)
                · intro W hW
                  have hcW := (bcell hW).1
                  go_simp
                  try exact rfl
                simp only [Act.put, List.setIfInBounds_toArray, List.set_cons_zero, List.set_cons_succ]
              refine mix_won rfl (wanted_is rfl rfl rfl rfl rfl) (fun K hK => ?_)
              go_simp
              refine (equalI_any A19 A21 n19 c19 n21 c21 lq lq _ (r19.out.ext T) (r21.out.ext T) e19.out e21.out hl19).mono ?_
              rintro e w41 ⟨rfl, hE⟩
              refine hK _ _ (T.trans (hE.mono T.size)) ?_
              clear hK K
              try simp only [Act.put, List.setIfInBounds_toArray, List.set_cons_zero, List.set_cons_succ]
              replace T := T.trans (hE.mono T.size)
              try rw [show decide (lq = lq) = true from decide_eq_true rfl]
              clear hE
              iterate 2
                apply mix_q rfl rfl
                · intro W hW
                  have hcW := (bcell hW).1
                  go_simp
                  try exact rfl
                simp only [Act.put, List.setIfInBounds_toArray, List.set_cons_zero, List.set_cons_succ]
              iterate 2
                apply mix_on rfl (wanted_is rfl rfl rfl rfl rfl)
                · intro W hW
                  have hcW := (bcell hW).1
                  go_simp
                  try exact rfl
                simp only [Act.put, List.setIfInBounds_toArray, List.set_cons_zero, List.set_cons_succ]
              refine mix_won rfl (wanted_is rfl rfl rfl rfl rfl) (fun K hK => ?_)
              go_simp
              refine (own_any A2 n2 c2 ys _ (g2.out.ext T) hn2.out hc2).mono ?_
              rintro e w42 ⟨v, rfl, hO, hE⟩
              refine hK _ _ (T.trans (hE.mono T.size)) ?_
              clear hK K
              try simp only [Act.put, List.setIfInBounds_toArray, List.set_cons_zero, List.set_cons_succ]
              replace T := T.trans (hE.mono T.size)
              rw [← hb.out] at hO
              obtain ⟨A50, c50, rfl, r50, hc50, -⟩ := hO.rd
              obtain ⟨n50, e50⟩ : ∃ m, m = (List.length b) := ⟨_, rfl⟩
              rw [← e50] at hc50 ⊢
              replace r50 := hide r50
              replace e50 := hide e50
              clear hO
              clear hE
              refine mix_won rfl (wanted_is rfl rfl rfl rfl rfl) (fun K hK => ?_)
              go_simp
              refine (refSame_any A8 A50 n8 c8 n50 c50 b b _ (g8.out.ext T) e8.out hl8 r50.out e50.out).mono ?_
              rintro e w43 ⟨rfl, hE⟩
              refine hK _ _ (T.trans (hE.mono T.size)) ?_
              clear hK K
              try simp only [Act.put, List.setIfInBounds_toArray, List.set_cons_zero, List.set_cons_succ]
              replace T := T.trans (hE.mono T.size)
              try rw [show decide (b = b) = true from decide_eq_true rfl]
              clear hE
              iterate 2
                apply mix_q rfl rfl
                · intro W hW
                  have hcW := (bcell hW).1
                  go_simp
                  try exact rfl
                simp only [Act.put, List.setIfInBounds_toArray, List.set_cons_zero, List.set_cons_succ]
              refine mix_nil ?_
              go_wp2
              go_ret
              exact ⟨rfl, hB.out.trans ((TT.out.trans ((T2.out.trans (T.mono T2.out.size)).mono TT.out.size)).mono hB.out.size)⟩
            | false =>
              rw [hq, if_neg (by decide)] at hzs hO
              obtain rfl : zE = 4 := hzE.out.trans hzs
              obtain rfl : lq = [] := hlq.out.trans (moveL_no (by rw [← hzE.out]; decide))
              obtain rfl : n19 = 0 := e19.out
              have hl19 : 0 ≤ 1000000 := by decide
              replace hq := hide hq
              replace hzs := hide hzs
              replace hO : Own intE 3 _ w33 v [] := hO
              obtain ⟨A21, c21, rfl, r21, hc21, -⟩ := hO.rd
              obtain ⟨n21, e21⟩ : ∃ m, m = (List.length ([] : List Int)) := ⟨_, rfl⟩
              rw [← e21] at hc21 ⊢
              replace r21 := hide r21
              replace e21 := hide e21
              clear hO
              obtain rfl : n21 = 0 := e21.out
              go_upto_region 34 with fail
              have T2 := hide T
              have k8 := (X8.out.ext T).cell
              have s8 := (X8.out.ext T).lt
              have k4 := (X4.out.ext (TT.out.trans (T2.out.mono TT.out.size))).cell
              have s4 := (X4.out.ext (TT.out.trans (T2.out.mono TT.out.size))).lt
              have g2 := hide (h2.out.ext (TT.out.trans (T2.out.mono TT.out.size)))
              have g8 := hide ((rdO r8.out).ext T2.out)
              clear T
              have T : Ext w33 w33.drew := (Below.refl _ _).drew
              refine wp_region_mix (fun W => Below w33.heap.size w33 W) [(0, true), (1, true), (2, true), (3, true), (4, true), (5, true), (6, false), (7, true), (8, true), (9, true), (10, true), (11, false), (12, false), (13, true), (14, true)] (by kernel_rfl) (by kernel_rfl) (by kernel_rfl) (by kernel_rfl) (fun _ _ d _ _ h => by cases d <;> exact h) ?_ ?_
              · exact T
              obtain ⟨wl, hwh⟩ : ∃ x, x = w33.drew := ⟨_, rfl⟩
              rw [← hwh] at T ⊢
              clear hwh
              iterate 4
                apply mix_q rfl rfl
                · intro W hW
                  have hcW := (bcell hW).1
                  go_simp
                  try exact rfl
                simp only [Act.put, List.setIfInBounds_toArray, List.set_cons_zero, List.set_cons_succ]
              iterate 2
                apply mix_on rfl (wanted_is rfl rfl rfl rfl rfl)
                · intro W hW
                  have hcW := (bcell hW).1
                  go_simp
                  try exact rfl
                simp only [Act.put, List.setIfInBounds_toArray, List.set_cons_zero, List.set_cons_succ]
              refine mix_won rfl (wanted_is rfl rfl rfl rfl rfl) (fun K hK => ?_)
              go_simp
              refine (equalI_any A19 A21 0 c19 0 c21 [] [] _ (r19.out.ext T) (r21.out.ext T) e19.out rfl hl19).mono ?_
              rintro e w41 ⟨rfl, hE⟩
              refine hK _ _ (T.trans (hE.mono T.size)) ?_
              clear hK K
              try simp only [Act.put, List.setIfInBounds_toArray, List.set_cons_zero, List.set_cons_succ]
              replace T := T.trans (hE.mono T.size)
              try rw [show decide (([] : List Int) = []) = true from decide_eq_true rfl]
              clear hE
              iterate 2
                apply mix_q rfl rfl
                · intro W hW
                  have hcW := (bcell hW).1
                  go_simp
                  try exact rfl
                simp only [Act.put, List.setIfInBounds_toArray, List.set_cons_zero, List.set_cons_succ]
              iterate 2
                apply mix_on rfl (wanted_is rfl rfl rfl rfl rfl)
                · intro W hW
                  have hcW := (bcell hW).1
                  go_simp
                  try exact rfl
                simp only [Act.put, List.setIfInBounds_toArray, List.set_cons_zero, List.set_cons_succ]
              refine mix_won rfl (wanted_is rfl rfl rfl rfl rfl) (fun K hK => ?_)
              go_simp
              refine (own_any A2 n2 c2 ys _ (g2.out.ext T) hn2.out hc2).mono ?_
              rintro e w42 ⟨v, rfl, hO, hE⟩
              refine hK _ _ (T.trans (hE.mono T.size)) ?_
              clear hK K
              try simp only [Act.put, List.setIfInBounds_toArray, List.set_cons_zero, List.set_cons_succ]
              replace T := T.trans (hE.mono T.size)
              rw [← hb.out] at hO
              obtain ⟨A50, c50, rfl, r50, hc50, -⟩ := hO.rd
              obtain ⟨n50, e50⟩ : ∃ m, m = (List.length b) := ⟨_, rfl⟩
              rw [← e50] at hc50 ⊢
              replace r50 := hide r50
              replace e50 := hide e50
              clear hO
              clear hE
              refine mix_won rfl (wanted_is rfl rfl rfl rfl rfl) (fun K hK => ?_)
              go_simp
              refine (refSame_any A8 A50 n8 c8 n50 c50 b b _ (g8.out.ext T) e8.out hl8 r50.out e50.out).mono ?_
              rintro e w43 ⟨rfl, hE⟩
              refine hK _ _ (T.trans (hE.mono T.size)) ?_
              clear hK K
              try simp only [Act.put, List.setIfInBounds_toArray, List.set_cons_zero, List.set_cons_succ]
              replace T := T.trans (hE.mono T.size)
              try rw [show decide (b = b) = true from decide_eq_true rfl]
              clear hE
              iterate 2
                apply mix_q rfl rfl
                · intro W hW
                  have hcW := (bcell hW).1
                  go_simp
                  try exact rfl
                simp only [Act.put, List.setIfInBounds_toArray, List.set_cons_zero, List.set_cons_succ]
              refine mix_nil ?_
              go_wp2
              go_ret
              exact ⟨rfl, hB.out.trans ((TT.out.trans ((T2.out.trans (T.mono T2.out.size)).mono TT.out.size)).mono hB.out.size)⟩
      · have h8' : ((k : Int) == 8) = false := by rw [beq_eq_false_iff_ne]; omega
        have h8'' : ¬ (k : Int) = 8 := by omega
        have T : Ext wr wr := Below.refl _ _
        have hl7 : n7 ≤ 1000000 := by have := l71.out; omega
        obtain ⟨g, hg⟩ : ∃ x, x = (putN a s).1 := ⟨_, rfl⟩
        obtain ⟨p, hp⟩ : ∃ x, x = (putN a s).2.1 := ⟨_, rfl⟩
        obtain ⟨z, hz⟩ : ∃ x, x = (putN a s).2.2 := ⟨_, rfl⟩
        have hput : putN a s = (g, p, z) := by rw [hg, hp, hz]
        clear hg hp hz
        replace hput := hide hput
        have k7 := (X7.out.ext T).cell
        have s7 := (X7.out.ext T).lt
        go_wp2_with fail
        refine (put_any A7 n7 c7 a s _ ((rdO r7.out).ext T) e7.out hl7 hfa.out hms (hL.out.ext TT.out)).mono ?_
        rintro e w7 ⟨v, rfl, hO, hE⟩
        rw [hput.out] at hO ⊢
        replace hO : Own strE 9 wr.heap.size w7 v g := hO
        replace T := T.trans (hE.mono T.size)
        clear hE
        clear k7 s7
        clear hsc hbr
        have O11 := hide hO
        obtain ⟨A11, c11, rfl, -, hc11, -⟩ := hO.rd
        obtain ⟨n11, e11⟩ : ∃ m, m = g.length := ⟨_, rfl⟩
        rw [← e11] at hc11 O11 ⊢
        replace e11 := hide e11
        clear hO
        go_upto_region 10 with fail
        obtain ⟨w8, hw⟩ : ∃ x, x = (w7.alloc (.cells #[.slice A11 n11 c11] 27)).alloc (.cells #[.slice none 0 0] 27) := ⟨_, rfl⟩
        rw [← hw]
        have hE : Ext w7 w8 := by rw [hw]; exact ((Below.refl _ _).alloc (Nat.le_refl _) _).alloc (by simp) _
        have X11 : Hid (Box w8 w7.heap.size 27 (.slice A11 n11 c11)) := hide (by rw [hw]; exact (Box.new _ _ _).alloc _)
        have X14 : Hid (Box w8 (w7.heap.size + 1) 27 (.slice none 0 0)) := hide (by
          rw [hw]
          have := Box.new (w7.alloc (.cells #[.slice A11 n11 c11] 27)) 27 (.slice none 0 0)
          rw [World.size_alloc] at this
          exact this)
        clear hw
        have hp7 := T.size
        obtain ⟨p11, hp11⟩ : ∃ b, b = w7.heap.size := ⟨_, rfl⟩
        rw [← hp11] at X11 X14 hp7 ⊢
        obtain ⟨p14, hp14⟩ : ∃ b, b = p11 + 1 := ⟨_, rfl⟩
        rw [← hp14] at X14 ⊢
        have d114 : p11 ≠ p14 := by omega
        have lp14 : wr.heap.size ≤ p14 := by omega
        clear hp11 hp14 hp7
        replace O11 := hide (O11.out.ext hE)
        replace T := T.trans (hE.mono T.size)
        clear hE
        have k7 := (X7.out.ext T).cell
        have s7 := (X7.out.ext T).lt
        go_wp2_with fail
        refine (refRight_any A7 n7 c7 a _ ((rdO r7.out).ext T) e7.out hl7 hc7.out hfa.out (hL.out.ext (TT.out.trans (T.mono TT.out.size)))).mono ?_
        rintro e w9 ⟨rfl, hE⟩
        replace O11 := hide (O11.out.ext hE)
        replace X11 := hide (X11.out.ext hE)
        replace X14 := hide (X14.out.ext hE)
        replace T := T.trans (hE.mono T.size)
        clear hE
        clear k7 s7
        cases hf : fineB a with
        | false =>
          have hpn := hput.out
          rw [putN_no hf] at hpn
          injection hpn with e1 e2
          injection e2 with e2 e3
          subst e1 e2 e3
          obtain rfl : n11 = 0 := e11.out
          replace hf := hide hf
          have k7 := (X7.out.ext T).cell
          have s7 := (X7.out.ext T).lt
          have k11 := X11.out.cell
          have s11 := X11.out.lt
          have k14 := X14.out.cell
          have s14 := X14.out.lt
          have hl11 : 0 ≤ 1000000 := by decide
          go_wp2_with fail
          refine (refSame_any A11 none 0 c11 0 0 [] [] _ (rdO O11.out) rfl hl11 Rd.nil_ rfl).mono ?_
          rintro e w13 ⟨rfl, hE⟩
          rw [show decide (([] : List ByteArray) = []) = true from decide_eq_true rfl]
          replace O11 := hide (O11.out.ext hE)
          replace X11 := hide (X11.out.ext hE)
          replace X14 := hide (X14.out.ext hE)
          replace T := T.trans (hE.mono T.size)
          clear hE
          clear k11 s11 k14 s14
          clear k7 s7
          have k7 := (X7.out.ext T).cell
          have s7 := (X7.out.ext T).lt
          go_wp2_with fail
          refine (own_any A7 n7 c7 a _ ((rdO r7.out).ext T) e7.out hc7.out).mono ?_
          rintro e w14 ⟨v, rfl, hO, hE⟩
          rw [List.take_of_length_le (by rw [← e7.out]; exact l71.out)] at hO
          have O17 := hide hO
          have q17 := hide (own_after O11.out hO (Nat.le_refl _))
          replace O11 := hide (O11.out.ext hE)
          replace X11 := hide (X11.out.ext hE)
          replace X14 := hide (X14.out.ext hE)
          obtain ⟨A17, c17, rfl, -, hc17, -⟩ := hO.rd
          obtain ⟨n17, e17⟩ : ∃ m, m = a.length := ⟨_, rfl⟩
          rw [← e17] at hc17 O17 q17 ⊢
          replace e17 := hide e17
          clear hO
          replace T := T.trans (hE.mono T.size)
          clear hE
          clear k7 s7
          go_upto_region 15 with fail
          obtain ⟨w15, hw⟩ : ∃ x, x = w14.alloc (.cells #[.slice A17 n17 c17] 27) := ⟨_, rfl⟩
          rw [← hw]
          have hE : Ext w14 w15 := by rw [hw]; exact (Below.refl _ _).alloc (Nat.le_refl _) _
          have X17 : Hid (Box w15 w14.heap.size 27 (.slice A17 n17 c17)) := hide (by rw [hw]; exact Box.new _ _ _)
          clear hw
          obtain ⟨p17, hp17⟩ : ∃ b, b = w14.heap.size := ⟨_, rfl⟩
          rw [← hp17] at X17 ⊢
          clear hp17
          replace O11 := hide (O11.out.ext hE)
          replace O17 := hide (O17.out.ext hE)
          replace X11 := hide (X11.out.ext hE)
          replace X14 := hide (X14.out.ext hE)
          replace T := T.trans (hE.mono T.size)
          clear hE
          have T15 := hide T
          have k11 := X11.out.cell
          have s11 := X11.out.lt
          clear T
          go_wp2
          go_loopw [76] (fun j wx => ∃ (m : Nat) (l : List ByteArray), m ≤ 0 ∧ j = .int .i64 m ∧ Hid (Own strE 9 wr.heap.size wx (.slice A11 0 c11) l) ∧ Hid (w15.grownBy wx (Value.slice A11 0 c11).ownBlock)) (fun j _ => 0 - (intOf j).toNat)
          case atStart => exact ⟨0, _, Nat.zero_le _, rfl, O11, hide (World.grownBy.refl _ _)⟩
          case round =>
            clear k11 s11
            obtain ⟨m, l, hm, rfl, Ol, hG⟩ := hrel
            obtain rfl : m = 0 := by omega
            have k11 := (X11.out.app O11.out hG.out (by decide)).cell
            have s11 := (X11.out.app O11.out hG.out (by decide)).lt
            have T := Own.below O11.out T15.out hG.out T15.out.size
            replace X14 := hide (X14.out.app O11.out hG.out (by decide))
            replace X17 := hide (X17.out.app O11.out hG.out (by decide))
            replace O17 := hide (O17.out.kept hG.out q17.out)
            clear X11 O11 Ol hG T15
            have k7 := (X7.out.ext T).cell
            have s7 := (X7.out.ext T).lt
            have k17 := X17.out.cell
            have s17 := X17.out.lt
            go_wp2_with fail
            refine (refSame_any A7 A17 n7 c7 n17 c17 a a _ ((rdO r7.out).ext T) e7.out hl7 (rdO O17.out) e17.out).mono ?_
            rintro e w20 ⟨rfl, hE⟩
            rw [show decide (a = a) = true from decide_eq_true rfl]
            replace X14 := hide (X14.out.ext hE)
            replace T := T.trans (hE.mono T.size)
            clear hE
            clear k7 s7 k17 s17 X17 O17 q17 hc17 e17
            go_wp2
            refine ⟨?_, ?_⟩
            · first
                | exact ⟨k + 1, n7, c7, A7, a, by omega, by omega, by go_num, e7, l71, hc7, hfa, hide (r7.out.ext T), hide (X7.out.ext T), hide (r8.out.ext T), hide (X8.out.ext T), hide (TT.out.trans (T.mono TT.out.size))⟩
                | ((repeat apply Exists.intro); exact ⟨⟨k + 1, n7, c7, A7, a, by omega, by omega, by go_num, e7, l71, hc7, hfa, hide (r7.out.ext T), hide (X7.out.ext T), hide (r8.out.ext T), hide (X8.out.ext T), hide (TT.out.trans (T.mono TT.out.size))⟩, rfl⟩)
            · first | (simp [intOf, lenV]; omega) | (simp [intOf]; omega) | (simp [intOf]; done)
        | true =>
          have hpr : putR a s = (g, p, z) := by rw [← putN_yes hf]; exact hput.out
          have hg301 : g.length ≤ 301 := putR_len hf hpr
          replace hf := hide hf
          replace hpr := hide hpr
          have k7 := (X7.out.ext T).cell
          have s7 := (X7.out.ext T).lt
          go_wp2_with fail
          refine (own_any A7 n7 c7 a _ ((rdO r7.out).ext T) e7.out hc7.out).mono ?_
          rintro e w10 ⟨v, rfl, hO, hE⟩
          rw [List.take_of_length_le (by rw [← e7.out]; exact l71.out)] at hO
          have O9x := hide O11.out
          have hbz := hE.size
          replace O11 := hide (O11.out.ext hE)
          replace X11 := hide (X11.out.ext hE)
          replace X14 := hide (X14.out.ext hE)
          obtain ⟨A51, c51, rfl, -, hc51, -⟩ := hO.rd
          rw [← e7.out] at hO hc51 ⊢
          have O51 := hide hO
          clear hO
          replace T := T.trans (hE.mono T.size)
          clear hE
          clear k7 s7
          go_wp2_with fail
          refine (refPut_any _ A51 n7 c51 a s _ (rdO O51.out) O51.out hbz e7.out hl7 hms).mono ?_
          rintro e w11 ⟨v, rfl, hO, hE⟩
          rw [hpr.out] at hO ⊢
          replace hO : Own strE 9 _ w11 v g := hO
          have q14 := hide (own_after O9x.out hO (Nat.le_refl _))
          replace T := T.trans (hE.mono T.size)
          replace O11 := hide (O11.out.ext hE)
          replace X11 := hide (X11.out.ext hE)
          replace X14 := hide (X14.out.ext hE)
          clear hE O51 hc51
          have O14 := hide (hO.base_le (Nat.zero_le _))
          obtain ⟨A14, c14, rfl, -, hc14, -⟩ := hO.rd
          obtain ⟨n14, e14⟩ : ∃ m, m = g.length := ⟨_, rfl⟩
          rw [← e14] at hc14 O14 q14 ⊢
          replace e14 := hide e14
          clear hO
          have f14 := X14.out.free
          have k14 := X14.out.cell
          have s14 := X14.out.lt
          go_upto_region 12 with fail
          obtain ⟨w12, hw⟩ : ∃ x, x = w11.setCell ⟨p14, 0, none⟩ (.slice A14 n14 c14) := ⟨_, rfl⟩
          rw [← hw]
          replace O11 := hide (show Own strE 9 wr.heap.size w12 (.slice A11 n11 c11) g by rw [hw]; exact O11.out.set X14.out (by decide) _)
          replace O14 := hide (show Own strE 9 0 w12 (.slice A14 n14 c14) g by rw [hw]; exact O14.out.set X14.out (by decide) _)
          replace X11 := hide (show Box w12 p11 27 (.slice A11 n11 c11) by rw [hw]; exact X11.out.far (p := ⟨p14, 0, none⟩) d114 _)
          replace X14 := hide (show Box w12 p14 27 (.slice A14 n14 c14) by rw [hw]; exact X14.out.set _)
          replace T : Ext wr w12 := by rw [hw]; exact T.setCell (p := ⟨p14, 0, none⟩) lp14 _
          clear hw f14 k14 s14
          have hn301 : n11 ≤ 301 := by rw [e11.out]; exact hg301
          clear hg301
          have k7 := (X7.out.ext T).cell
          have s7 := (X7.out.ext T).lt
          have k11 := X11.out.cell
          have s11 := X11.out.lt
          have k14 := X14.out.cell
          have s14 := X14.out.lt
          have hl11 : n11 ≤ 1000000 := by omega
          go_wp2_with fail
          refine (refSame_any A11 A14 n11 c11 n14 c14 g g _ (rdO O11.out) e11.out hl11 (rdO O14.out) e14.out).mono ?_
          rintro e w13 ⟨rfl, hE⟩
          rw [show decide ((g : List ByteArray) = g) = true from decide_eq_true rfl]
          replace O11 := hide (O11.out.ext hE)
          replace X11 := hide (X11.out.ext hE)
          replace X14 := hide (X14.out.ext hE)
          replace O14 := hide (O14.out.ext hE)
          replace T := T.trans (hE.mono T.size)
          clear hE
          clear k11 s11 k14 s14
          clear k7 s7
          have k7 := (X7.out.ext T).cell
          have s7 := (X7.out.ext T).lt
          go_wp2_with fail
          refine (own_any A7 n7 c7 a _ ((rdO r7.out).ext T) e7.out hc7.out).mono ?_
          rintro e w14 ⟨v, rfl, hO, hE⟩
          rw [List.take_of_length_le (by rw [← e7.out]; exact l71.out)] at hO
          have O17 := hide hO
          have q17 := hide (own_after O11.out hO (Nat.le_refl _))
          replace O11 := hide (O11.out.ext hE)
          replace X11 := hide (X11.out.ext hE)
          replace X14 := hide (X14.out.ext hE)
          replace O14 := hide (O14.out.ext hE)
          obtain ⟨A17, c17, rfl, -, hc17, -⟩ := hO.rd
          obtain ⟨n17, e17⟩ : ∃ m, m = a.length := ⟨_, rfl⟩
          rw [← e17] at hc17 O17 q17 ⊢
          replace e17 := hide e17
          clear hO
          replace T := T.trans (hE.mono T.size)
          clear hE
          clear k7 s7
          go_upto_region 15 with fail
          obtain ⟨w15, hw⟩ : ∃ x, x = w14.alloc (.cells #[.slice A17 n17 c17] 27) := ⟨_, rfl⟩
          rw [← hw]
          have hE : Ext w14 w15 := by rw [hw]; exact (Below.refl _ _).alloc (Nat.le_refl _) _
          have X17 : Hid (Box w15 w14.heap.size 27 (.slice A17 n17 c17)) := hide (by rw [hw]; exact Box.new _ _ _)
          clear hw
          obtain ⟨p17, hp17⟩ : ∃ b, b = w14.heap.size := ⟨_, rfl⟩
          rw [← hp17] at X17 ⊢
          clear hp17
          replace O11 := hide (O11.out.ext hE)
          replace O17 := hide (O17.out.ext hE)
          replace X11 := hide (X11.out.ext hE)
          replace X14 := hide (X14.out.ext hE)
          replace O14 := hide (O14.out.ext hE)
          replace T := T.trans (hE.mono T.size)
          clear hE
          have T15 := hide T
          have k11 := X11.out.cell
          have s11 := X11.out.lt
          clear T
          go_wp2
          go_loopw [76] (fun j wx => ∃ (m : Nat) (l : List ByteArray), m ≤ n11 ∧ j = .int .i64 m ∧ Hid (Own strE 9 wr.heap.size wx (.slice A11 n11 c11) l) ∧ Hid (w15.grownBy wx (Value.slice A11 n11 c11).ownBlock)) (fun j _ => n11 - (intOf j).toNat)
          case atStart => exact ⟨0, _, Nat.zero_le _, rfl, O11, hide (World.grownBy.refl _ _)⟩
          case round =>
            clear k11 s11
            obtain ⟨m, l, hm, rfl, Ol, hG⟩ := hrel
            by_cases hmt : m < n11
            · have hmt' : (m : Int) < (n11 : Int) := by omega
              obtain ⟨gb, u, rfl, hg1, hg2, hg3, hg4, hS⟩ := Ol.out.setStr hmt ⟨#[]⟩
              have k11 := (X11.out.app O11.out hG.out (by decide)).cell
              have s11 := (X11.out.app O11.out hG.out (by decide)).lt
              have hG2 := hide (grown_trans2 hG.out (grown_set _ gb m (.string ⟨#[]⟩)))
              replace hS := hide hS
              go_wp2
              refine ⟨?_, ?_⟩
              · first
                  | exact ⟨m + 1, _, by omega, by go_num, hS, hG2⟩
                  | ((repeat apply Exists.intro); exact ⟨⟨m + 1, _, by omega, by go_num, hS, hG2⟩, rfl⟩)
              · first | (simp [intOf, lenV]; omega) | (simp [intOf]; omega) | (simp [intOf]; done)
            · have hmt' : ¬ (m : Int) < (n11 : Int) := by omega
              have T := Own.below O11.out T15.out hG.out T15.out.size
              replace X14 := hide (X14.out.app O11.out hG.out (by decide))
              replace X17 := hide (X17.out.app O11.out hG.out (by decide))
              replace O17 := hide (O17.out.kept hG.out q17.out)
              replace O14 := hide (O14.out.kept hG.out q14.out)
              clear X11 O11 Ol hG T15
              have k7 := (X7.out.ext T).cell
              have s7 := (X7.out.ext T).lt
              have k17 := X17.out.cell
              have s17 := X17.out.lt
              go_wp2_with fail
              refine (refSame_any A7 A17 n7 c7 n17 c17 a a _ ((rdO r7.out).ext T) e7.out hl7 (rdO O17.out) e17.out).mono ?_
              rintro e w20 ⟨rfl, hE⟩
              rw [show decide (a = a) = true from decide_eq_true rfl]
              replace X14 := hide (X14.out.ext hE)
              replace O14 := hide (O14.out.ext hE)
              replace T := T.trans (hE.mono T.size)
              clear hE
              clear k7 s7 k17 s17 X17 O17 q17 hc17 e17
              by_cases hz : z = 0
              · subst hz
                obtain ⟨q1, q2, q3, q4, q5, q6, q7⟩ := putN_ok hf.out hput.out
                have hl301 : g.length ≤ 301 := by have := (fine_parts q1).2.2; omega
                have hfg : Hid (∀ x ∈ g, x.size ≤ maxLen) := hide (fun x hx => by
                  rcases q6 x hx with h | h
                  · exact hfa.out x h
                  · rw [h]; exact hms)
                clear q1 q2 q3 q4 q5 q6 q7
                have k14 := X14.out.cell
                have s14 := X14.out.lt
                go_wp2_with fail
                refine (own_any A14 n14 c14 g _ (rdO O14.out) e14.out hc14).mono ?_
                rintro e w21 ⟨v, rfl, hO, hE⟩
                rw [List.take_of_length_le hl301] at hO
                replace T := T.trans (hE.mono T.size)
                clear hE k14 s14 X14 O14 q14
                obtain ⟨A90, c90, rfl, -, hc90, -⟩ := hO.rd
                obtain ⟨n90, e90⟩ : ∃ m, m = g.length := ⟨_, rfl⟩
                rw [← e90] at hc90 hO hl301 ⊢
                replace e90 := hide e90
                have f7 := (X7.out.ext T).free
                have k7 := (X7.out.ext T).cell
                have s7 := (X7.out.ext T).lt
                have O90 := hide (((hO.base_le (Nat.zero_le _)).set (X7.out.ext T) (by decide) (.slice A90 n90 c90)))
                have Y7 := hide ((X7.out.ext T).set (.slice A90 n90 c90))
                have Y8 := hide ((X8.out.ext T).far (p := ⟨p7, 0, none⟩) (Ne.symm d78) (.slice A90 n90 c90))
                have R8 := hide ((r8.out.ext T).set (X7.out.ext T) (by decide) (.slice A90 n90 c90))
                have TE := hide ((TT.out.trans (T.mono TT.out.size)).setCell (p := ⟨p7, 0, none⟩) l7 (.slice A90 n90 c90))
                clear hO
                go_wp2
                refine ⟨?_, ?_⟩
                · first
                    | exact ⟨k + 1, n90, c90, A90, g, by omega, by omega, by go_num, e90, hide hl301, hide hc90, hfg, O90, Y7, R8, Y8, TE⟩
                    | ((repeat apply Exists.intro); exact ⟨⟨k + 1, n90, c90, A90, g, by omega, by omega, by go_num, e90, hide hl301, hide hc90, hfg, O90, Y7, R8, Y8, TE⟩, rfl⟩)
                · first | (simp [intOf, lenV]; omega) | (simp [intOf]; omega) | (simp [intOf]; done)
              · have hz' : (z == 0) = false := by rw [beq_eq_false_iff_ne]; exact hz
                go_wp2
                refine ⟨?_, ?_⟩
                · first
                    | exact ⟨k + 1, n7, c7, A7, a, by omega, by omega, by go_num, e7, l71, hc7, hfa, hide (r7.out.ext T), hide (X7.out.ext T), hide (r8.out.ext T), hide (X8.out.ext T), hide (TT.out.trans (T.mono TT.out.size))⟩
                    | ((repeat apply Exists.intro); exact ⟨⟨k + 1, n7, c7, A7, a, by omega, by omega, by go_num, e7, l71, hc7, hfa, hide (r7.out.ext T), hide (X7.out.ext T), hide (r8.out.ext T), hide (X8.out.ext T), hide (TT.out.trans (T.mono TT.out.size))⟩, rfl⟩)
                · first | (simp [intOf, lenV]; omega) | (simp [intOf]; omega) | (simp [intOf]; done)
    · have hlt' : ¬ (k : Int) < (n3 : Int) := by omega
      have T : Ext wr wr := Below.refl _ _
      have hl7 : n7 ≤ 1000000 := by have := l71.out; omega
      have k7 := (X7.out.ext T).cell
      have s7 := (X7.out.ext T).lt
      have k8 := (X8.out.ext T).cell
      have s8 := (X8.out.ext T).lt
      obtain ⟨zE, hzE⟩ : ∃ z, z = moveE a b := ⟨_, rfl⟩
      obtain ⟨lq, hlq⟩ : ∃ l, l = moveL a b := ⟨_, rfl⟩
      replace hzE := hide hzE
      replace hlq := hide hlq
      go_wp2_with fail
      refine (move_any A7 A8 n7 c7 n8 c8 a b _ ((rdO r7.out).ext T) e7.out hl7 hfa.out ((rdO r8.out).ext T) e8.out hl8 hfb (hL.out.ext (TT.out.trans (T.mono TT.out.size)))).mono ?_
      rintro e w30 ⟨v, rfl, hO, hE⟩
      rw [← hlq.out] at hO
      rw [← hzE.out]
      replace hO : Own intE 3 _ w30 v lq := hO
      replace T := T.trans (hE.mono T.size)
      clear hE
      obtain ⟨A19, c19, rfl, r19, hc19, -⟩ := hO.rd
      obtain ⟨n19, e19⟩ : ∃ m, m = (List.length lq) := ⟨_, rfl⟩
      rw [← e19] at hc19 ⊢
      replace r19 := hide r19
      replace e19 := hide e19
      clear hO
      clear k7 s7 k8 s8
      have k7 := (X7.out.ext T).cell
      have s7 := (X7.out.ext T).lt
      have k8 := (X8.out.ext T).cell
      have s8 := (X8.out.ext T).lt
      have T30 := hide (Below.refl w30.heap.size w30 : Ext w30 w30)
      go_wp2_with fail
      refine (refRight_any A7 n7 c7 a _ ((rdO r7.out).ext T) e7.out hl7 hc7.out hfa.out (hL.out.ext (TT.out.trans (T.mono TT.out.size)))).mono ?_
      rintro e w31 ⟨rfl, hE⟩
      replace T := T.trans (hE.mono T.size)
      replace r19 := hide (r19.out.ext hE)
      clear hE
      clear k7 s7 k8 s8
      cases hf : fineB a with
      | false =>
        obtain rfl : zE = 201 := hzE.out.trans (moveE_noA hf)
        obtain rfl : lq = [] := hlq.out.trans (moveL_no (by rw [← hzE.out]; decide))
        obtain rfl : n19 = 0 := e19.out
        have hl19 : 0 ≤ 1000000 := by decide
        replace hf := hide hf
        go_upto_region 34 with fail
        have T2 := hide T
        have k8 := (X8.out.ext T).cell
        have s8 := (X8.out.ext T).lt
        have k4 := (X4.out.ext (TT.out.trans (T2.out.mono TT.out.size))).cell
        have s4 := (X4.out.ext (TT.out.trans (T2.out.mono TT.out.size))).lt
        have g2 := hide (h2.out.ext (TT.out.trans (T2.out.mono TT.out.size)))
        have g8 := hide ((rdO r8.out).ext T2.out)
        clear T
        have T : Ext w31 w31.drew := (Below.refl _ _).drew
        refine wp_region_mix (fun W => Below w31.heap.size w31 W) [(0, true), (1, true), (2, true), (3, true), (4, true), (5, true), (6, false), (7, true), (8, true), (9, true), (10, true), (11, false), (12, false), (13, true), (14, true)] (by kernel_rfl) (by kernel_rfl) (by kernel_rfl) (by kernel_rfl) (fun _ _ d _ _ h => by cases d <;> exact h) ?_ ?_
        · exact T
        obtain ⟨wl, hwh⟩ : ∃ x, x = w31.drew := ⟨_, rfl⟩
        rw [← hwh] at T ⊢
        clear hwh
        iterate 4
          apply mix_q rfl rfl
          · intro W hW
            have hcW := (bcell hW).1
            go_simp
            try exact rfl
          simp only [Act.put, List.setIfInBounds_toArray, List.set_cons_zero, List.set_cons_succ]
        iterate 2
          apply mix_on rfl (wanted_is rfl rfl rfl rfl rfl)
          · intro W hW
            have hcW := (bcell hW).1
            go_simp
            try exact rfl
          simp only [Act.put, List.setIfInBounds_toArray, List.set_cons_zero, List.set_cons_succ]
        refine mix_won rfl (wanted_is rfl rfl rfl rfl rfl) (fun K hK => ?_)
        go_simp
        refine (equalI_any A19 none 0 c19 0 0 [] [] _ (r19.out.ext T) (Rd.nil_) e19.out rfl hl19).mono ?_
        rintro e w41 ⟨rfl, hE⟩
        refine hK _ _ (T.trans (hE.mono T.size)) ?_
        clear hK K
        try simp only [Act.put, List.setIfInBounds_toArray, List.set_cons_zero, List.set_cons_succ]
        replace T := T.trans (hE.mono T.size)
        try rw [show decide (([] : List Int) = []) = true from decide_eq_true rfl]
        clear hE
        iterate 2
          apply mix_q rfl rfl
          · intro W hW
            have hcW := (bcell hW).1
            go_simp
            try exact rfl
          simp only [Act.put, List.setIfInBounds_toArray, List.set_cons_zero, List.set_cons_succ]
        iterate 2
          apply mix_on rfl (wanted_is rfl rfl rfl rfl rfl)
          · intro W hW
            have hcW := (bcell hW).1
            go_simp
            try exact rfl
          simp only [Act.put, List.setIfInBounds_toArray, List.set_cons_zero, List.set_cons_succ]
        refine mix_won rfl (wanted_is rfl rfl rfl rfl rfl) (fun K hK => ?_)
        go_simp
        refine (own_any A2 n2 c2 ys _ (g2.out.ext T) hn2.out hc2).mono ?_
        rintro e w42 ⟨v, rfl, hO, hE⟩
        refine hK _ _ (T.trans (hE.mono T.size)) ?_
        clear hK K
        try simp only [Act.put, List.setIfInBounds_toArray, List.set_cons_zero, List.set_cons_succ]
        replace T := T.trans (hE.mono T.size)
        rw [← hb.out] at hO
        obtain ⟨A50, c50, rfl, r50, hc50, -⟩ := hO.rd
        obtain ⟨n50, e50⟩ : ∃ m, m = (List.length b) := ⟨_, rfl⟩
        rw [← e50] at hc50 ⊢
        replace r50 := hide r50
        replace e50 := hide e50
        clear hO
        clear hE
        refine mix_won rfl (wanted_is rfl rfl rfl rfl rfl) (fun K hK => ?_)
        go_simp
        refine (refSame_any A8 A50 n8 c8 n50 c50 b b _ (g8.out.ext T) e8.out hl8 r50.out e50.out).mono ?_
        rintro e w43 ⟨rfl, hE⟩
        refine hK _ _ (T.trans (hE.mono T.size)) ?_
        clear hK K
        try simp only [Act.put, List.setIfInBounds_toArray, List.set_cons_zero, List.set_cons_succ]
        replace T := T.trans (hE.mono T.size)
        try rw [show decide (b = b) = true from decide_eq_true rfl]
        clear hE
        iterate 2
          apply mix_q rfl rfl
          · intro W hW
            have hcW := (bcell hW).1
            go_simp
            try exact rfl
          simp only [Act.put, List.setIfInBounds_toArray, List.set_cons_zero, List.set_cons_succ]
        refine mix_nil ?_
        go_wp2
        go_ret
        exact ⟨rfl, hB.out.trans ((TT.out.trans ((T2.out.trans (T.mono T2.out.size)).mono TT.out.size)).mono hB.out.size)⟩
      | true =>
        replace hf := hide hf
        have k7 := (X7.out.ext T).cell
        have s7 := (X7.out.ext T).lt
        have k8 := (X8.out.ext T).cell
        have s8 := (X8.out.ext T).lt
        go_wp2_with fail
        refine (refRight_any A8 n8 c8 b _ ((rdO r8.out).ext T) e8.out hl8 hc8 hfb (hL.out.ext (TT.out.trans (T.mono TT.out.size)))).mono ?_
        rintro e w32 ⟨rfl, hE⟩
        replace T := T.trans (hE.mono T.size)
        replace r19 := hide (r19.out.ext hE)
        clear hE
        clear k7 s7 k8 s8
        cases hg : fineB b with
        | false =>
          obtain rfl : zE = 201 := hzE.out.trans (moveE_noB hg)
          obtain rfl : lq = [] := hlq.out.trans (moveL_no (by rw [← hzE.out]; decide))
          obtain rfl : n19 = 0 := e19.out
          have hl19 : 0 ≤ 1000000 := by decide
          replace hg := hide hg
          go_upto_region 34 with fail
          have T2 := hide T
          have k8 := (X8.out.ext T).cell
          have s8 := (X8.out.ext T).lt
          have k4 := (X4.out.ext (TT.out.trans (T2.out.mono TT.out.size))).cell
          have s4 := (X4.out.ext (TT.out.trans (T2.out.mono TT.out.size))).lt
          have g2 := hide (h2.out.ext (TT.out.trans (T2.out.mono TT.out.size)))
          have g8 := hide ((rdO r8.out).ext T2.out)
          clear T
          have T : Ext w32 w32.drew := (Below.refl _ _).drew
          refine wp_region_mix (fun W => Below w32.heap.size w32 W) [(0, true), (1, true), (2, true), (3, true), (4, true), (5, true), (6, false), (7, true), (8, true), (9, true), (10, true), (11, false), (12, false), (13, true), (14, true)] (by kernel_rfl) (by kernel_rfl) (by kernel_rfl) (by kernel_rfl) (fun _ _ d _ _ h => by cases d <;> exact h) ?_ ?_
          · exact T
          obtain ⟨wl, hwh⟩ : ∃ x, x = w32.drew := ⟨_, rfl⟩
          rw [← hwh] at T ⊢
          clear hwh
          iterate 4
            apply mix_q rfl rfl
            · intro W hW
              have hcW := (bcell hW).1
              go_simp
              try exact rfl
            simp only [Act.put, List.setIfInBounds_toArray, List.set_cons_zero, List.set_cons_succ]
          iterate 2
            apply mix_on rfl (wanted_is rfl rfl rfl rfl rfl)
            · intro W hW
              have hcW := (bcell hW).1
              go_simp
              try exact rfl
            simp only [Act.put, List.setIfInBounds_toArray, List.set_cons_zero, List.set_cons_succ]
          refine mix_won rfl (wanted_is rfl rfl rfl rfl rfl) (fun K hK => ?_)
          go_simp
          refine (equalI_any A19 none 0 c19 0 0 [] [] _ (r19.out.ext T) (Rd.nil_) e19.out rfl hl19).mono ?_
          rintro e w41 ⟨rfl, hE⟩
          refine hK _ _ (T.trans (hE.mono T.size)) ?_
          clear hK K
          try simp only [Act.put, List.setIfInBounds_toArray, List.set_cons_zero, List.set_cons_succ]
          replace T := T.trans (hE.mono T.size)
          try rw [show decide (([] : List Int) = []) = true from decide_eq_true rfl]
          clear hE
          iterate 2
            apply mix_q rfl rfl
            · intro W hW
              have hcW := (bcell hW).1
              go_simp
              try exact rfl
            simp only [Act.put, List.setIfInBounds_toArray, List.set_cons_zero, List.set_cons_succ]
          iterate 2
            apply mix_on rfl (wanted_is rfl rfl rfl rfl rfl)
            · intro W hW
              have hcW := (bcell hW).1
              go_simp
              try exact rfl
            simp only [Act.put, List.setIfInBounds_toArray, List.set_cons_zero, List.set_cons_succ]
          refine mix_won rfl (wanted_is rfl rfl rfl rfl rfl) (fun K hK => ?_)
          go_simp
          refine (own_any A2 n2 c2 ys _ (g2.out.ext T) hn2.out hc2).mono ?_
          rintro e w42 ⟨v, rfl, hO, hE⟩
          refine hK _ _ (T.trans (hE.mono T.size)) ?_
          clear hK K
          try simp only [Act.put, List.setIfInBounds_toArray, List.set_cons_zero, List.set_cons_succ]
          replace T := T.trans (hE.mono T.size)
          rw [← hb.out] at hO
          obtain ⟨A50, c50, rfl, r50, hc50, -⟩ := hO.rd
          obtain ⟨n50, e50⟩ : ∃ m, m = (List.length b) := ⟨_, rfl⟩
          rw [← e50] at hc50 ⊢
          replace r50 := hide r50
          replace e50 := hide e50
          clear hO
          clear hE
          refine mix_won rfl (wanted_is rfl rfl rfl rfl rfl) (fun K hK => ?_)
          go_simp
          refine (refSame_any A8 A50 n8 c8 n50 c50 b b _ (g8.out.ext T) e8.out hl8 r50.out e50.out).mono ?_
          rintro e w43 ⟨rfl, hE⟩
          refine hK _ _ (T.trans (hE.mono T.size)) ?_
          clear hK K
          try simp only [Act.put, List.setIfInBounds_toArray, List.set_cons_zero, List.set_cons_succ]
          replace T := T.trans (hE.mono T.size)
          try rw [show decide (b = b) = true from decide_eq_true rfl]
          clear hE
          iterate 2
            apply mix_q rfl rfl
            · intro W hW
              have hcW := (bcell hW).1
              go_simp
              try exact rfl
            simp only [Act.put, List.setIfInBounds_toArray, List.set_cons_zero, List.set_cons_succ]
          refine mix_nil ?_
          go_wp2
          go_ret
          exact ⟨rfl, hB.out.trans ((TT.out.trans ((T2.out.trans (T.mono T2.out.size)).mono TT.out.size)).mono hB.out.size)⟩
        | true =>
          have hzs := moveE_sub hf.out hg
          replace hg := hide hg
          have k7 := (X7.out.ext T).cell
          have s7 := (X7.out.ext T).lt
          have k8 := (X8.out.ext T).cell
          have s8 := (X8.out.ext T).lt
          go_wp2_with fail
          refine (refMove_any A7 A8 n7 c7 n8 c8 a b _ ((rdO r7.out).ext T) e7.out hl7 ((rdO r8.out).ext T) e8.out hl8).mono ?_
          rintro e w33 ⟨v, rfl, hO, hE⟩
          replace T := T.trans (hE.mono T.size)
          replace r19 := hide (r19.out.ext hE)
          clear hE
          clear k7 s7 k8 s8
          cases hq : subB a b with
          | true =>
            rw [hq, if_pos rfl] at hzs hO
            obtain rfl : zE = 0 := hzE.out.trans hzs
            rw [← moveL_yes hzE.out.symm, ← hlq.out] at hO
            replace hO : Own intE 3 _ w33 v lq := hO
            have hl19 : n19 ≤ 1000000 := by rw [e19.out, hlq.out, moveL_len hzE.out.symm, ← e7.out]; exact hl7
            replace hq := hide hq
            replace hzs := hide hzs
            obtain ⟨A21, c21, rfl, r21, hc21, -⟩ := hO.rd
            obtain ⟨n21, e21⟩ : ∃ m, m = (List.length lq) := ⟨_, rfl⟩
            rw [← e21] at hc21 ⊢
            replace r21 := hide r21
            replace e21 := hide e21
            clear hO
            go_upto_region 34 with fail
            have T2 := hide T
            have k8 := (X8.out.ext T).cell
            have s8 := (X8.out.ext T).lt
            have k4 := (X4.out.ext (TT.out.trans (T2.out.mono TT.out.size))).cell
            have s4 := (X4.out.ext (TT.out.trans (T2.out.mono TT.out.size))).lt
            have g2 := hide (h2.out.ext (TT.out.trans (T2.out.mono TT.out.size)))
            have g8 := hide ((rdO r8.out).ext T2.out)
            clear T
            have T : Ext w33 w33.drew := (Below.refl _ _).drew
            refine wp_region_mix (fun W => Below w33.heap.size w33 W) [(0, true), (1, true), (2, true), (3, true), (4, true), (5, true), (6, false), (7, true), (8, true), (9, true), (10, true), (11, false), (12, false), (13, true), (14, true)] (by kernel_rfl) (by kernel_rfl) (by kernel_rfl) (by kernel_rfl) (fun _ _ d _ _ h => by cases d <;> exact h) ?_ ?_
            · exact T
            obtain ⟨wl, hwh⟩ : ∃ x, x = w33.drew := ⟨_, rfl⟩
            rw [← hwh] at T ⊢
            clear hwh
            iterate 4
              apply mix_q rfl rfl
              · intro W hW
                have hcW := (bcell hW).1
                go_simp
                try exact rfl
              simp only [Act.put, List.setIfInBounds_toArray, List.set_cons_zero, List.set_cons_succ]
            iterate 2
              apply mix_on rfl (wanted_is rfl rfl rfl rfl rfl)
              · intro W hW
                have hcW := (bcell hW).1
                go_simp
                try exact rfl
              simp only [Act.put, List.setIfInBounds_toArray, List.set_cons_zero, List.set_cons_succ]
            refine mix_won rfl (wanted_is rfl rfl rfl rfl rfl) (fun K hK => ?_)
            go_simp
            refine (equalI_any A19 A21 n19 c19 n21 c21 lq lq _ (r19.out.ext T) (r21.out.ext T) e19.out e21.out hl19).mono ?_
            rintro e w41 ⟨rfl, hE⟩
            refine hK _ _ (T.trans (hE.mono T.size)) ?_
            clear hK K
            try simp only [Act.put, List.setIfInBounds_toArray, List.set_cons_zero, List.set_cons_succ]
            replace T := T.trans (hE.mono T.size)
            try rw [show decide (lq = lq) = true from decide_eq_true rfl]
            clear hE
            iterate 2
              apply mix_q rfl rfl
              · intro W hW
                have hcW := (bcell hW).1
                go_simp
                try exact rfl
              simp only [Act.put, List.setIfInBounds_toArray, List.set_cons_zero, List.set_cons_succ]
            iterate 2
              apply mix_on rfl (wanted_is rfl rfl rfl rfl rfl)
              · intro W hW
                have hcW := (bcell hW).1
                go_simp
                try exact rfl
              simp only [Act.put, List.setIfInBounds_toArray, List.set_cons_zero, List.set_cons_succ]
            refine mix_won rfl (wanted_is rfl rfl rfl rfl rfl) (fun K hK => ?_)
            go_simp
            refine (own_any A2 n2 c2 ys _ (g2.out.ext T) hn2.out hc2).mono ?_
            rintro e w42 ⟨v, rfl, hO, hE⟩
            refine hK _ _ (T.trans (hE.mono T.size)) ?_
            clear hK K
            try simp only [Act.put, List.setIfInBounds_toArray, List.set_cons_zero, List.set_cons_succ]
            replace T := T.trans (hE.mono T.size)
            rw [← hb.out] at hO
            obtain ⟨A50, c50, rfl, r50, hc50, -⟩ := hO.rd
            obtain ⟨n50, e50⟩ : ∃ m, m = (List.length b) := ⟨_, rfl⟩
            rw [← e50] at hc50 ⊢
            replace r50 := hide r50
            replace e50 := hide e50
            clear hO
            clear hE
            refine mix_won rfl (wanted_is rfl rfl rfl rfl rfl) (fun K hK => ?_)
            go_simp
            refine (refSame_any A8 A50 n8 c8 n50 c50 b b _ (g8.out.ext T) e8.out hl8 r50.out e50.out).mono ?_
            rintro e w43 ⟨rfl, hE⟩
            refine hK _ _ (T.trans (hE.mono T.size)) ?_
            clear hK K
            try simp only [Act.put, List.setIfInBounds_toArray, List.set_cons_zero, List.set_cons_succ]
            replace T := T.trans (hE.mono T.size)
            try rw [show decide (b = b) = true from decide_eq_true rfl]
            clear hE
            iterate 2
              apply mix_q rfl rfl
              · intro W hW
                have hcW := (bcell hW).1
                go_simp
                try exact rfl
              simp only [Act.put, List.setIfInBounds_toArray, List.set_cons_zero, List.set_cons_succ]
            refine mix_nil ?_
            go_wp2
            go_ret
            exact ⟨rfl, hB.out.trans ((TT.out.trans ((T2.out.trans (T.mono T2.out.size)).mono TT.out.size)).mono hB.out.size)⟩
          | false =>
            rw [hq, if_neg (by decide)] at hzs hO
            obtain rfl : zE = 4 := hzE.out.trans hzs
            obtain rfl : lq = [] := hlq.out.trans (moveL_no (by rw [← hzE.out]; decide))
            obtain rfl : n19 = 0 := e19.out
            have hl19 : 0 ≤ 1000000 := by decide
            replace hq := hide hq
            replace hzs := hide hzs
            replace hO : Own intE 3 _ w33 v [] := hO
            obtain ⟨A21, c21, rfl, r21, hc21, -⟩ := hO.rd
            obtain ⟨n21, e21⟩ : ∃ m, m = (List.length ([] : List Int)) := ⟨_, rfl⟩
            rw [← e21] at hc21 ⊢
            replace r21 := hide r21
            replace e21 := hide e21
            clear hO
            obtain rfl : n21 = 0 := e21.out
            go_upto_region 34 with fail
            have T2 := hide T
            have k8 := (X8.out.ext T).cell
            have s8 := (X8.out.ext T).lt
            have k4 := (X4.out.ext (TT.out.trans (T2.out.mono TT.out.size))).cell
            have s4 := (X4.out.ext (TT.out.trans (T2.out.mono TT.out.size))).lt
            have g2 := hide (h2.out.ext (TT.out.trans (T2.out.mono TT.out.size)))
            have g8 := hide ((rdO r8.out).ext T2.out)
            clear T
            have T : Ext w33 w33.drew := (Below.refl _ _).drew
            refine wp_region_mix (fun W => Below w33.heap.size w33 W) [(0, true), (1, true), (2, true), (3, true), (4, true), (5, true), (6, false), (7, true), (8, true), (9, true), (10, true), (11, false), (12, false), (13, true), (14, true)] (by kernel_rfl) (by kernel_rfl) (by kernel_rfl) (by kernel_rfl) (fun _ _ d _ _ h => by cases d <;> exact h) ?_ ?_
            · exact T
            obtain ⟨wl, hwh⟩ : ∃ x, x = w33.drew := ⟨_, rfl⟩
            rw [← hwh] at T ⊢
            clear hwh
            iterate 4
              apply mix_q rfl rfl
              · intro W hW
                have hcW := (bcell hW).1
                go_simp
                try exact rfl
              simp only [Act.put, List.setIfInBounds_toArray, List.set_cons_zero, List.set_cons_succ]
            iterate 2
              apply mix_on rfl (wanted_is rfl rfl rfl rfl rfl)
              · intro W hW
                have hcW := (bcell hW).1
                go_simp
                try exact rfl
              simp only [Act.put, List.setIfInBounds_toArray, List.set_cons_zero, List.set_cons_succ]
            refine mix_won rfl (wanted_is rfl rfl rfl rfl rfl) (fun K hK => ?_)
            go_simp
            refine (equalI_any A19 A21 0 c19 0 c21 [] [] _ (r19.out.ext T) (r21.out.ext T) e19.out rfl hl19).mono ?_
            rintro e w41 ⟨rfl, hE⟩
            refine hK _ _ (T.trans (hE.mono T.size)) ?_
            clear hK K
            try simp only [Act.put, List.setIfInBounds_toArray, List.set_cons_zero, List.set_cons_succ]
            replace T := T.trans (hE.mono T.size)
            try rw [show decide (([] : List Int) = []) = true from decide_eq_true rfl]
            clear hE
            iterate 2
              apply mix_q rfl rfl
              · intro W hW
                have hcW := (bcell hW).1
                go_simp
                try exact rfl
              simp only [Act.put, List.setIfInBounds_toArray, List.set_cons_zero, List.set_cons_succ]
            iterate 2
              apply mix_on rfl (wanted_is rfl rfl rfl rfl rfl)
              · intro W hW
                have hcW := (bcell hW).1
                go_simp
                try exact rfl
              simp only [Act.put, List.setIfInBounds_toArray, List.set_cons_zero, List.set_cons_succ]
            refine mix_won rfl (wanted_is rfl rfl rfl rfl rfl) (fun K hK => ?_)
            go_simp
            refine (own_any A2 n2 c2 ys _ (g2.out.ext T) hn2.out hc2).mono ?_
            rintro e w42 ⟨v, rfl, hO, hE⟩
            refine hK _ _ (T.trans (hE.mono T.size)) ?_
            clear hK K
            try simp only [Act.put, List.setIfInBounds_toArray, List.set_cons_zero, List.set_cons_succ]
            replace T := T.trans (hE.mono T.size)
            rw [← hb.out] at hO
            obtain ⟨A50, c50, rfl, r50, hc50, -⟩ := hO.rd
            obtain ⟨n50, e50⟩ : ∃ m, m = (List.length b) := ⟨_, rfl⟩
            rw [← e50] at hc50 ⊢
            replace r50 := hide r50
            replace e50 := hide e50
            clear hO
            clear hE
            refine mix_won rfl (wanted_is rfl rfl rfl rfl rfl) (fun K hK => ?_)
            go_simp
            refine (refSame_any A8 A50 n8 c8 n50 c50 b b _ (g8.out.ext T) e8.out hl8 r50.out e50.out).mono ?_
            rintro e w43 ⟨rfl, hE⟩
            refine hK _ _ (T.trans (hE.mono T.size)) ?_
            clear hK K
            try simp only [Act.put, List.setIfInBounds_toArray, List.set_cons_zero, List.set_cons_succ]
            replace T := T.trans (hE.mono T.size)
            try rw [show decide (b = b) = true from decide_eq_true rfl]
            clear hE
            iterate 2
              apply mix_q rfl rfl
              · intro W hW
                have hcW := (bcell hW).1
                go_simp
                try exact rfl
              simp only [Act.put, List.setIfInBounds_toArray, List.set_cons_zero, List.set_cons_succ]
            refine mix_nil ?_
            go_wp2
            go_ret
            exact ⟨rfl, hB.out.trans ((TT.out.trans ((T2.out.trans (T.mono T2.out.size)).mono TT.out.size)).mono hB.out.size)⟩
end Go.Proofs.YtpfmbehhppbcnaaDoor
