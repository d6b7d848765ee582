/- names.Fine: which tables may be. -/
import Derived.Test.YtpfmbehhppbcnaaDoorNumC
namespace Go.Proofs.YtpfmbehhppbcnaaDoor
open Go.RowKit Go.Shelf
attribute [local go_sem] Oper.semAt_some

def lastN (l : List NumAt) : Nat := (l.getLast?.map (·.1)).getD 0
theorem lastN_snoc (l : List NumAt) (x : NumAt) : lastN (l ++ [x]) = x.1 := by unfold lastN; simp
theorem lastN_nm (l : List ByteArray) : lastN (nm l) = l.length := by
  induction l using snocI with
  | h0 => rfl
  | h1 l x ih => rw [nm_snoc, lastN_snoc]; simp
theorem nm_snds (l : List ByteArray) : (nm l).map (·.2) = l := by
  induction l using snocI with
  | h0 => rfl
  | h1 l x ih => rw [nm_snoc, List.map_append, ih]; rfl
theorem many_done {xs : List ByteArray} (h : ∀ x ∈ nm (dd xs), wordB x.2 = true) : lastN (nm (dd xs)) = many xs := by
  rw [lastN_nm]
  unfold many
  rw [takeW_all]
  intro x hx
  rw [← nm_snds (dd xs)] at hx
  obtain ⟨y, hy, rfl⟩ := List.mem_map.1 hx
  exact h y hy
theorem takeW_stop {α : Type} (p : α → Bool) (a : List α) (x : α) (r : List α) (ha : ∀ y ∈ a, p y = true) (hx : p x = false) : (a ++ x :: r).takeWhile p = a := by
  induction a with
  | nil => rw [List.nil_append, List.takeWhile_cons, if_neg (by rw [hx]; decide)]
  | cons b a ih => rw [List.cons_append, List.takeWhile_cons, if_pos (ha b (List.mem_cons_self ..)), ih fun y hy => ha y (List.mem_cons_of_mem _ hy)]
theorem many_stop {xs : List ByteArray} {ds : List NumAt} {x : NumAt} (hp : ds ++ [x] <+: nm (dd xs)) (h : ∀ y ∈ ds, wordB y.2 = true) (hx : wordB x.2 = false) : lastN ds = many xs := by
  have h1 := nm_get ((List.prefix_append ds [x]).trans hp)
  obtain ⟨r, hr⟩ := hp
  have h2 := congrArg (fun l : List NumAt => l.map (·.2)) hr
  rw [nm_snds] at h2
  simp only [List.map_append, List.map_cons, List.map_nil, List.append_assoc, List.singleton_append] at h2
  unfold many
  rw [← h2, takeW_stop wordB _ _ _ (fun y hy => by obtain ⟨z, hz, rfl⟩ := List.mem_map.1 hy; exact h z hz) hx, List.length_map]
  have h3 : lastN ds = ((dd xs).take ds.length).length := by rw [← lastN_nm, ← h1]
  rw [h3, List.length_take]
  have h4 := congrArg List.length hr
  rw [List.length_append, List.length_append, nm_length] at h4
  simp at h4
  omega
set_option maxRecDepth 100000 in
set_option maxHeartbeats 4000000 in
theorem fine_any (A : Option Addr) (n c : Nat) (xs : List ByteArray) (w : World) (h : Rd strE w.heap.size w A xs) (hn : n = xs.length) (hl : n ≤ 1000000) (hm : ∀ x ∈ xs, x.size ≤ maxLen) (hU : LaidU w) :
    Calls Tryd.prog 17 #[.agg #[.slice A n c]] w fun e w' => e = .returned (.int .i64 (finE xs)) ∧ Ext w w' := by
  refine (callsIn_wide (n := 10)).1 ?_
  refine callsIn_of_wp_marks Tryd.func17 rfl trivial ?_ rfl
  simp only [Tryd.ntmps17, List.size_toArray, List.length_cons, List.length_nil, Nat.reduceAdd, Nat.reduceSub, Array.replicate_succ, Array.replicate_zero, List.push_toArray, List.append_toArray, List.nil_append, List.cons_append]
  replace hU := hide hU
  replace h := hide h
  replace hn := hide hn
  gi_wp2_with fail
  refine wpIn_wide.2 (wp_scope_straight ((wpIn_wide (n := 10)).1 ?_))
  gi_wp2_with fail
  apply wpIn_label
  gi_wp2_with fail
  obtain ⟨w1, hw1⟩ : ∃ x, x = (w.alloc (.cells #[.slice A n c] 27)).alloc (.cells #[.int .i64 0] 3) := ⟨_, rfl⟩
  rw [← hw1]
  have hE1 : Ext w w1 := by rw [hw1]; exact ((Below.refl _ w).alloc (Nat.le_refl _) _).alloc (by simp) _
  have B1 : Box w1 w.heap.size 27 (.slice A n c) := by rw [hw1]; exact (Box.new w _ _).alloc _
  have B3 : Box w1 (w.heap.size + 1) 3 (.int .i64 0) := by
    rw [hw1]
    have := Box.new (w.alloc (.cells #[.slice A n c] 27)) 3 (.int .i64 0)
    rw [World.size_alloc] at this
    exact this
  clear hw1
  obtain ⟨b1, hb1⟩ : ∃ b, b = w.heap.size := ⟨_, rfl⟩
  rw [← hb1] at B1 B3 ⊢
  obtain ⟨b3, hb3⟩ : ∃ b, b = b1 + 1 := ⟨_, rfl⟩
  rw [← hb3] at B3 ⊢
  have hle3 : w.heap.size ≤ b3 := by omega
  have h13 : b1 ≠ b3 := by omega
  clear hb1 hb3
  refine ⟨trivial, (callsIn_wide.2 (numbered_any A n c _)).mono ?_⟩
  rintro e w2 ⟨rfl, hw2⟩
  have hE2 : Ext w1 w2 := by rw [hw2]; exact (Below.refl _ _).alloc (Nat.le_refl _) _
  have hcl2 : w2.cell? ⟨w1.heap.size, 0, none⟩ = some (.slice A n c) := by rw [hw2]; simp [World.cell?_alloc_new]
  have h3l : b3 < w1.heap.size := B3.lt
  clear hw2
  obtain ⟨lB, hlB⟩ : ∃ x, x = w1.heap.size := ⟨_, rfl⟩
  rw [← hlB] at hcl2 h3l ⊢
  have h3s : b3 < w2.heap.size := by have := hE2.size; omega
  clear hlB
  have hB2 := hE1.trans (hE2.mono hE1.size)
  replace B1 := B1.ext hE2
  replace B3 := B3.ext hE2
  clear hE1 hE2
  gi_wp2_with fail
  refine rangeX rfl (by decide) (gf := 33) (lb := #[.pointer (some ⟨lB, 0, none⟩)]) rfl trivial (enters_of Tryd.func33 (by kernel_rfl) rfl)
    (numbered_stops 9 lB w.heap.size A n c xs w2 hn.out hl hB2.size hcl2 (h.out.below hB2) hm) (fun h k => h.trans k) (fun W l o o' h1 h2 h3 h4 => KpI.turn hB2.size W l o o' h1 h2 h3 h4) (fun h k => h.trans k) (fun h k => h.trans k) (fun _ _ _ _ hs _ _ => hs) (Below.refl _ _) (fun _ => rfl)
    (fun (pre : List NumAt) W => (Box W b1 27 (.slice A n c) ∧ Box W b3 3 (.int .i64 (lastN pre : Int)) ∧ w2.heap.size ≤ W.heap.size ∧ ∀ x ∈ pre, wordB x.2 = true) ∧ Below w.heap.size w W)
    (fun cd (pre : List NumAt) W => (cd = .exit 0 ∧ ∃ (ds : List NumAt) (x : NumAt), pre = ds ++ [x] ∧ (∀ y ∈ ds, wordB y.2 = true) ∧ wordB x.2 = false ∧ Box W b1 27 (.slice A n c) ∧ Box W b3 3 (.int .i64 (lastN ds : Int))) ∧ Below w.heap.size w W)
    (OwnFrom.and (Own.from (fun sx A B row hs hg hr => ⟨hs.1.grown hg (box_ne hs.1 hr), hs.2.1.grown hg (box_ne hs.2.1 hr), Nat.le_trans hs.2.2.1 hg.size, hs.2.2.2⟩) _) (ownFrom_below (Nat.le_refl _) hB2.size))
    (fun cd => OwnFrom.and (Own.from (fun sx A B row hs hg hr => by obtain ⟨h1, ds, x, h2, h3, h4, h5, h6⟩ := hs; exact ⟨h1, ds, x, h2, h3, h4, h5.grown hg (box_ne h5 hr), h6.grown hg (box_ne h6 hr)⟩) _) (ownFrom_below (Nat.le_refl _) hB2.size))
    ⟨⟨B1, B3, Nat.le_refl _, fun x hx => by cases hx⟩, hB2⟩
    (fun (x : NumAt) => { tmps := #[.agg #[.slice A n c], .pointer (some ⟨b1, 0, none⟩), .int .i64 0, .pointer (some ⟨b3, 0, none⟩), .int .i64 (x.1 : Int), .string x.2, .pointer (some ⟨b1, 0, none⟩), .slice A n c, .func (.func 33) #[] #[.pointer (some ⟨lB, 0, none⟩)], .int .i64 (x.1 : Int), .string x.2, undef, undef, undef, undef, undef, undef, undef, undef, undef, undef, undef, undef, undef], defers := [] }) ?assign ?body ?done ?stop
  case assign =>
    intro l x W K hK
    dsimp only [numVals]
    gi_wp2
    exact hK
  case body =>
    rintro l pre ⟨j, x⟩ W ⟨⟨P1, P3, hwz, hall⟩, hB⟩ hX hlt
    simp only at hX
    gi_wp2_with fail
    refine ⟨trivial, (CallsIn.inRound l (callsIn_wide.2 (checkN_any x W hX (hU.out.ext hB)))).mono ?_⟩
    rintro e W1 ⟨rfl, hE⟩
    have hk1 : KeepsFrom w2.heap.size W W1 := ⟨hE.size, fun k o _ hk _ => (hE.block k (Array.getElem?_eq_some_iff.1 hk).1).trans hk⟩
    have hp1 : KpI w.heap.size w2.heap.size lB W W1 := KpI.ext hE hB.size
    replace P1 := P1.ext hE
    replace P3 := P3.ext hE
    have hB1 := hB.trans (hE.mono hB.size)
    have hwz1 := Nat.le_trans hwz hE.size
    cases hw : wordB x with
    | true =>
      rw [chkN_word hw]
      have Q3 := P3.set (.int .i64 (j : Int))
      have Q1 := P1.far (p := ⟨b3, 0, none⟩) h13 (.int .i64 (j : Int))
      have c3 := P3.cell
      have f3 := P3.free
      have s3 := P3.lt
      have hp2 : KpI w.heap.size w2.heap.size lB W1 (W1.setCell ⟨b3, 0, none⟩ (.int .i64 (j : Int))) := by
        refine ⟨KeepsWalks.setCell _ _ _, (Below.refl _ _).setCell (p := ⟨b3, 0, none⟩) hle3 _, fun b o hb ho _ => ?_⟩
        exact (Below.heap_setCell W1 ⟨b3, 0, none⟩ _ b (fun e => by have e' : b = b3 := e; rcases hb with hb | hb <;> omega)).trans ho
      have hB4 := hB1.setCell (p := ⟨b3, 0, none⟩) hle3 (.int .i64 (j : Int))
      replace hw := hide hw
      gi_wp2
      exact ⟨hk1.trans ((KeepsOthers.setCell _ _ _).from _), hp1.trans hp2, ⟨Q1, by rw [lastN_snoc]; exact Q3, by rw [World.size_setCell]; exact hwz1, fun y hy => by
        rcases List.mem_append.1 hy with h | h
        · exact hall y h
        · rw [List.mem_singleton] at h; subst h; exact hw.out⟩, hB4⟩
    | false =>
      rw [chkN_not hw]
      replace hw := hide hw
      gi_wp2
      exact ⟨hk1, hp1, ⟨rfl, pre, (j, x), rfl, hall, hw.out, P1, P3⟩, hB1⟩
  case done =>
    rintro D ys W hD rfl ⟨⟨P1, P3, -, hall⟩, hB⟩ hK
    have hv : Hid (lastN (nm (dd xs)) = many xs) := hide (many_done hall)
    clear hall
    have c1 := P1.cell
    have c3 := P3.cell
    have s1 := P1.lt
    have s3 := P3.lt
    have hmf := hide (many_fine xs)
    have hml : Hid (many xs ≤ 1000000) := hide (by have h1 := dd_le xs; have h2 : many xs ≤ (dd xs).length := takeW_le _ _; have := hn.out; omega)
    obtain ⟨q, hq⟩ : ∃ q, q = many xs := ⟨_, rfl⟩
    rw [← hq, ← hn.out] at hmf
    rw [← hq] at hml hv
    rw [hv.out] at c3
    replace hq := hide hq
    by_cases h1 : q = n
    · have f1 : ((q : Int) != (n : Int)) = false := by rw [bne_eq_false_iff_eq]; omega
      by_cases h2 : q ≤ 300
      · have f2 : ¬ (300 : Int) < (q : Int) := by omega
        have hf : Hid (finE xs = 0) := hide (by unfold finE; rw [← hmf.out, decide_eq_true h1, decide_eq_true h2]; rfl)
        subst h1
        gi_wp2
        try rw [Exit.noGoto_ret]
        refine ⟨by simp, .inl ⟨_, _, rfl, run_takeDeferred hK, ?_⟩⟩
        refine ⟨_, results_tmp rfl _ _ _, by rw [hf.out]; rfl, ?_⟩
        exact hB.trans (belowK_b (w := w) (Nat.le_refl _) W D _ _ (Nat.le_trans hB2.size hD) hK rfl rfl)
      · have f2 : (300 : Int) < (q : Int) := by omega
        have hf : Hid (finE xs = 201) := hide (by unfold finE; rw [← hmf.out, decide_eq_false h2, Bool.and_false]; rfl)
        subst h1
        gi_wp2
        try rw [Exit.noGoto_ret]
        refine ⟨by simp, .inl ⟨_, _, rfl, run_takeDeferred hK, ?_⟩⟩
        refine ⟨_, results_tmp rfl _ _ _, by rw [hf.out]; rfl, ?_⟩
        exact hB.trans (belowK_b (w := w) (Nat.le_refl _) W D _ _ (Nat.le_trans hB2.size hD) hK rfl rfl)
    · have f1 : ((q : Int) != (n : Int)) = true := by rw [bne_iff_ne]; omega
      have f3 : ((q : Int) == (n : Int)) = false := by rw [beq_eq_false_iff_ne]; omega
      have f4 : ¬ (q : Int) = (n : Int) := by omega
      have hf : Hid (finE xs = 201) := hide (by unfold finE; rw [← hmf.out, decide_eq_false h1]; rfl)
      replace h1 := hide h1
      gi_wp2
      try rw [Exit.noGoto_ret]
      refine ⟨by simp, .inl ⟨_, _, rfl, run_takeDeferred hK, ?_⟩⟩
      refine ⟨_, results_tmp rfl _ _ _, by rw [hf.out]; rfl, ?_⟩
      exact hB.trans (belowK_b (w := w) (Nat.le_refl _) W D _ _ (Nat.le_trans hB2.size hD) hK rfl rfl)
  case stop =>
    rintro D cd pre W hD hpre ⟨⟨rfl, ds, x, rfl, hds, hx, P1, P3⟩, hB⟩ hK
    have hv : Hid (lastN ds = many xs) := hide (many_stop hpre hds hx)
    clear hds hx hpre
    have c1 := P1.cell
    have c3 := P3.cell
    have s1 := P1.lt
    have s3 := P3.lt
    have hmf := hide (many_fine xs)
    have hml : Hid (many xs ≤ 1000000) := hide (by have h1 := dd_le xs; have h2 : many xs ≤ (dd xs).length := takeW_le _ _; have := hn.out; omega)
    obtain ⟨q, hq⟩ : ∃ q, q = many xs := ⟨_, rfl⟩
    rw [← hq, ← hn.out] at hmf
    rw [← hq] at hml hv
    rw [hv.out] at c3
    replace hq := hide hq
    by_cases h1 : q = n
    · have f1 : ((q : Int) != (n : Int)) = false := by rw [bne_eq_false_iff_eq]; omega
      by_cases h2 : q ≤ 300
      · have f2 : ¬ (300 : Int) < (q : Int) := by omega
        have hf : Hid (finE xs = 0) := hide (by unfold finE; rw [← hmf.out, decide_eq_true h1, decide_eq_true h2]; rfl)
        subst h1
        gi_wp2
        try rw [Exit.noGoto_ret]
        refine ⟨by simp, .inl ⟨_, _, rfl, run_takeDeferred hK, ?_⟩⟩
        refine ⟨_, results_tmp rfl _ _ _, by rw [hf.out]; rfl, ?_⟩
        exact hB.trans (belowK_b (w := w) (Nat.le_refl _) W D _ _ (Nat.le_trans hB2.size hD) hK rfl rfl)
      · have f2 : (300 : Int) < (q : Int) := by omega
        have hf : Hid (finE xs = 201) := hide (by unfold finE; rw [← hmf.out, decide_eq_false h2, Bool.and_false]; rfl)
        subst h1
        gi_wp2
        try rw [Exit.noGoto_ret]
        refine ⟨by simp, .inl ⟨_, _, rfl, run_takeDeferred hK, ?_⟩⟩
        refine ⟨_, results_tmp rfl _ _ _, by rw [hf.out]; rfl, ?_⟩
        exact hB.trans (belowK_b (w := w) (Nat.le_refl _) W D _ _ (Nat.le_trans hB2.size hD) hK rfl rfl)
    · have f1 : ((q : Int) != (n : Int)) = true := by rw [bne_iff_ne]; omega
      have f3 : ((q : Int) == (n : Int)) = false := by rw [beq_eq_false_iff_ne]; omega
      have f4 : ¬ (q : Int) = (n : Int) := by omega
      have hf : Hid (finE xs = 201) := hide (by unfold finE; rw [← hmf.out, decide_eq_false h1]; rfl)
      replace h1 := hide h1
      gi_wp2
      try rw [Exit.noGoto_ret]
      refine ⟨by simp, .inl ⟨_, _, rfl, run_takeDeferred hK, ?_⟩⟩
      refine ⟨_, results_tmp rfl _ _ _, by rw [hf.out]; rfl, ?_⟩
      exact hB.trans (belowK_b (w := w) (Nat.le_refl _) W D _ _ (Nat.le_trans hB2.size hD) hK rfl rfl)
end Go.Proofs.YtpfmbehhppbcnaaDoor
