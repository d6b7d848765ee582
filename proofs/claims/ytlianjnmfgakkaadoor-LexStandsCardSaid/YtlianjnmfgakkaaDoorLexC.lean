/- lex: how many bytes go on; which texts are words. -/
import Derived.Test.YtlianjnmfgakkaaDoorLexB
import Derived.Scope
namespace Go.Proofs.YtlianjnmfgakkaaDoor
open Go.RowKit Go.Shelf Go.Lib
attribute [local go_sem] Oper.semAt_some

theorem box_ne {A : World} {row : Option Nat} {b : Nat} {t : TypeId} {v : Value} (h : Box A b t v) (hr : ∀ r, row = some r → ∃ o : Obj, A.heap[r]? = some o ∧ o.isCells = false) : some b ≠ row := by
  intro e
  obtain ⟨o, ho, hc⟩ := hr b e.symm
  unfold Box at h
  rw [h] at ho
  injection ho with ho
  subst ho
  cases hc
theorem whileN_done {s : ByteArray} {G : Nat → Bool} (h : ∀ x ∈ rns s 0, (okR s x.1 && G x.2) = true) : whileN s G = s.size := by
  have h1 := whileN_all s G
  have h2 : ((rns s 0).all fun x => okR s x.1 && G x.2) = true := by rw [List.all_eq_true]; exact h
  rw [h2] at h1
  simpa using h1
theorem whileN_stop {s : ByteArray} {G : Nat → Bool} {ds : List (Nat × Nat)} {y : Nat × Nat} (hp : ds ++ [y] <+: rns s 0) (h : ∀ x ∈ ds, (okR s x.1 && G x.2) = true) (hy : (okR s y.1 && G y.2) = false) : whileN s G = y.1 := by
  unfold whileN
  obtain ⟨r, hr⟩ := hp
  have hf : (rns s 0).find? (fun x => !(okR s x.1 && G x.2)) = some y := by
    rw [← hr, List.append_assoc, List.find?_append, List.find?_eq_none.2 (fun x hx => by rw [h x hx]; simp), List.singleton_append, List.find?_cons_of_pos (by rw [hy]; rfl)]
    rfl
  rw [hf]
def Goes (f : FuncId) (G : Nat → Bool) : Prop := ∀ (c : Nat) (W : World), Calls Tryd.prog f #[.int .i32 (c : Int)] W fun e W' => e = .returned (.bool (G c)) ∧ W' = W
def okG (s : ByteArray) (G : Nat → Bool) (x : RuneAt) : Bool := okR s x.1.1 && G x.1.2
set_option maxRecDepth 100000 in
set_option maxHeartbeats 4000000 in
theorem while_any (s : ByteArray) (f : FuncId) (G : Nat → Bool) (hG : Goes f G) (he : ∀ (args : Array Value) (w : World), (callFunc f args).run Tryd.prog w = .ok (.enter f args) w) (hm : s.size ≤ maxLen) (w : World) (hU : LaidU w) :
    Calls Tryd.prog 26 #[.string s, .func (.func f) #[] #[]] w fun e w' => e = .returned (.int .i64 ((whileN s G : Nat) : Int)) ∧ Ext w w' := by
  refine (callsIn_wide (n := 10)).1 ?_
  refine callsIn_of_wp_marks Tryd.func26 rfl trivial ?_ rfl
  simp only [Tryd.ntmps26, List.size_toArray, List.length_cons, List.length_nil, Nat.reduceAdd, Nat.reduceSub, Array.replicate_succ, Array.replicate_zero, List.push_toArray, List.append_toArray, List.nil_append, List.cons_append]
  replace hU := hide hU
  gi_wp2_with fail
  refine wpIn_wide.2 (wp_scope_straight ((wpIn_wide (n := 10)).1 ?_))
  gi_wp2_with fail
  apply wpIn_label
  gi_wp2_with fail
  obtain ⟨w1, hw1⟩ : ∃ x, x = (w.alloc (.cells #[.func (.func f) #[] #[]] 44)).alloc (.cells #[.int .i64 (s.size : Int)] 3) := ⟨_, rfl⟩
  rw [← hw1]
  have hE1 : Ext w w1 := by rw [hw1]; exact ((Below.refl _ w).alloc (Nat.le_refl _) _).alloc (by simp) _
  have B3 : Box w1 w.heap.size 44 (.func (.func f) #[] #[]) := by rw [hw1]; exact (Box.new w _ _).alloc _
  have B5 : Box w1 (w.heap.size + 1) 3 (.int .i64 (s.size : Int)) := by
    rw [hw1]
    have := Box.new (w.alloc (.cells #[.func (.func f) #[] #[]] 44)) 3 (.int .i64 (s.size : Int))
    rw [World.size_alloc] at this
    exact this
  clear hw1
  obtain ⟨b3, hb3⟩ : ∃ b, b = w.heap.size := ⟨_, rfl⟩
  rw [← hb3] at B3 B5 ⊢
  obtain ⟨b5, hb5⟩ : ∃ b, b = b3 + 1 := ⟨_, rfl⟩
  rw [← hb5] at B5 ⊢
  have hle5 : w.heap.size ≤ b5 := by omega
  clear hb3 hb5
  refine ⟨trivial, (callsIn_wide.2 (runes_any s _)).mono ?_⟩
  rintro e w2 ⟨rfl, hw2⟩
  have hE2 : Ext w1 w2 := by rw [hw2]; exact (Below.refl _ _).alloc (Nat.le_refl _) _
  have hcs2 : w2.cell? ⟨w1.heap.size, 0, none⟩ = some (.string s) := by rw [hw2]; simp [World.cell?_alloc_new]
  clear hw2
  obtain ⟨sB, hsB⟩ : ∃ x, x = w1.heap.size := ⟨_, rfl⟩
  rw [← hsB] at hcs2 ⊢
  clear hsB
  have hB2 := hE1.trans (hE2.mono hE1.size)
  replace B3 := B3.ext hE2
  replace B5 := B5.ext hE2
  clear hE1 hE2
  gi_wp2_with fail
  refine rangeX rfl (by decide) (gf := 65) (lb := #[.pointer (some ⟨sB, 0, none⟩)]) rfl trivial (enters_of Tryd.func65 (by kernel_rfl) rfl)
    (runes_stops 9 sB s w2 hcs2 hm) (fun h k => ⟨h.1.trans k.1, h.2.trans k.2⟩) (fun W l o o' h1 h2 h3 h4 => ⟨KeepsWalks.putObj o' h2 h4, belowK_b (w := w2) (Nat.le_refl _) W l o o' h1 h2 h3 h4⟩) (fun _ _ => trivial) (fun _ _ => trivial) (runeX_own s _) (Below.refl _ _) (fun _ => rfl)
    (fun (pre : List RuneAt) W => (Box W b3 44 (.func (.func f) #[] #[]) ∧ Box W b5 3 (.int .i64 (s.size : Int)) ∧ W.cell? ⟨sB, 0, none⟩ = some (.string s) ∧ w2.heap.size ≤ W.heap.size ∧ ∀ x ∈ pre, okG s G x = true) ∧ Below w.heap.size w W)
    (fun cd (pre : List RuneAt) W => (cd = .exit 0 ∧ ∃ (ds : List RuneAt) (x : RuneAt), pre = ds ++ [x] ∧ (∀ y ∈ ds, okG s G y = true) ∧ okG s G x = false ∧ Box W b5 3 (.int .i64 (x.1.1 : Int))) ∧ Below w.heap.size w W)
    (OwnFrom.and (Own.from (fun sx A B row hs hg hr => ⟨hs.1.grown hg (box_ne hs.1 hr), hs.2.1.grown hg (box_ne hs.2.1 hr), cell_kept hs.2.2.1 hg hr, Nat.le_trans hs.2.2.2.1 hg.size, hs.2.2.2.2⟩) _) (ownFrom_below (Nat.le_refl _) hB2.size))
    (fun cd => OwnFrom.and (Own.from (fun sx A B row hs hg hr => by obtain ⟨h1, ds, x, h2, h3, h4, h5⟩ := hs; exact ⟨h1, ds, x, h2, h3, h4, h5.grown hg (box_ne h5 hr)⟩) _) (ownFrom_below (Nat.le_refl _) hB2.size))
    ⟨⟨B3, B5, hcs2, Nat.le_refl _, fun x hx => by cases hx⟩, hB2⟩
    (fun (x : RuneAt) => { tmps := #[.string s, .func (.func f) #[] #[], undef, .pointer (some ⟨b3, 0, none⟩), .int .i64 0, .pointer (some ⟨b5, 0, none⟩), .int .i64 (x.1.1 : Int), .func (.func 66) #[] #[.pointer (some ⟨sB, 0, none⟩), .pointer (some ⟨x.2.1, 0, none⟩), .pointer (some ⟨x.2.2, 0, none⟩)], undef, undef, .string s, .int .i64 (s.size : Int), .string s, .func (.func 65) #[] #[.pointer (some ⟨sB, 0, none⟩)], .int .i64 (x.1.1 : Int), .func (.func 66) #[] #[.pointer (some ⟨sB, 0, none⟩), .pointer (some ⟨x.2.1, 0, none⟩), .pointer (some ⟨x.2.2, 0, none⟩)], undef, undef, undef, undef, undef, undef, undef, undef, undef, undef, undef, undef, undef, undef, undef], defers := [] }) ?assign ?body ?done ?stop
  case assign =>
    intro l x W K hK
    dsimp only [runeVals]
    gi_wp2
    exact hK
  case body =>
    rintro l pre ⟨⟨p, c⟩, ⟨ib, cb⟩⟩ W ⟨⟨P3, P5, hcs, hwz, hall⟩, hB⟩ ⟨⟨hp, hc⟩, hxi, hxc⟩ hlt
    simp only at hp hc hxi hxc
    have h41 := fun args w => enters_of Tryd.func66 (by kernel_rfl) rfl args w
    have l1 := cell_lt hcs
    have l2 := cell_lt hxi
    have l3 := cell_lt hxc
    gi_wp2_with fail
    refine ⟨trivial, (CallsIn.inRound l (callsIn_wide.2 (told_any s p sB ib cb W hp hcs hxi (by rw [← hc]; exact hxc) hm l1 l2 l3 (hU.out.ext hB)))).mono ?_⟩
    rintro e W1 ⟨rfl, hE⟩
    rw [← hc]
    replace hc := hide hc
    replace P3 := P3.ext hE
    replace P5 := P5.ext hE
    have hcs1 := ((bcell hE).1 sB 0 l1).trans hcs
    have hB1 := hB.trans (hE.mono hB.size)
    have c3 := P3.cell
    have s3 := P3.lt
    have hk1 : KeepsFrom w2.heap.size W W1 := ⟨hE.size, fun k o _ hk _ => (hE.block k (Array.getElem?_eq_some_iff.1 hk).1).trans hk⟩
    have hb1 : Below w2.heap.size W W1 := hE.mono hwz
    have hw1 : KeepsWalks W W1 := ⟨hE.size, fun k o hk _ => (hE.block k (Array.getElem?_eq_some_iff.1 hk).1).trans hk⟩
    clear hcs l1 l2 l3 hxi hxc
    cases hok : okR s p with
    | false =>
      have hno : okG s G ((p, c), (ib, cb)) = false := by unfold okG; simp only; rw [hok, Bool.false_and]
      replace hok := hide hok
      gi_wp2_with fail
      refine ⟨fun _ h => (by cases h), ?_⟩
      have Q5 := P5.set (.int .i64 (p : Int))
      have c5 := P5.cell
      have f5 := P5.free
      have s5 := P5.lt
      gi_wp2
      exact ⟨KeepsFrom.trans hk1 ((KeepsOthers.setCell _ _ _).from _), trivial, ⟨rfl, pre, ((p, c), (ib, cb)), rfl, hall, hno, Q5⟩, hB1.setCell (p := ⟨b5, 0, none⟩) hle5 _⟩
    | true =>
      gi_wp2_with fail
      refine ⟨trivial, (CallsIn.inRound l (callsIn_wide.2 (hG c W1))).mono ?_⟩
      rintro e W2 ⟨rfl, hw⟩
      rw [hw]
      clear hw
      cases hg : G c with
      | false =>
        have hno : okG s G ((p, c), (ib, cb)) = false := by unfold okG; simp only; rw [hok, hg]; rfl
        replace hok := hide hok
        replace hg := hide hg
        have Q5 := P5.set (.int .i64 (p : Int))
        have c5 := P5.cell
        have f5 := P5.free
        have s5 := P5.lt
        gi_wp2
        exact ⟨KeepsFrom.trans hk1 ((KeepsOthers.setCell _ _ _).from _), trivial, ⟨rfl, pre, ((p, c), (ib, cb)), rfl, hall, hno, Q5⟩, hB1.setCell (p := ⟨b5, 0, none⟩) hle5 _⟩
      | true =>
        have hyes : okG s G ((p, c), (ib, cb)) = true := by unfold okG; simp only; rw [hok, hg]; rfl
        replace hok := hide hok
        replace hg := hide hg
        gi_wp2
        exact ⟨hk1, ⟨hw1, hb1⟩, ⟨P3, P5, hcs1, Nat.le_trans hwz hE.size, fun y hy => by
          rcases List.mem_append.1 hy with h | h
          · exact hall y h
          · rw [List.mem_singleton] at h; subst h; exact hyes⟩, hB1⟩
  case done =>
    rintro D ys W hD hys ⟨⟨P3, P5, hcs, -, hall⟩, hB⟩ hK
    have hv : Hid (whileN s G = s.size) := hide (whileN_done fun x hx => by
      rw [← hys] at hx
      obtain ⟨y, hy, rfl⟩ := List.mem_map.1 hx
      exact hall y hy)
    clear hall hys hcs P3
    have c5 := P5.cell
    have s5 := P5.lt
    gi_wp2
    rw [Exit.noGoto_ret]
    refine ⟨by simp, .inl ⟨_, _, rfl, run_takeDeferred hK, ?_⟩⟩
    refine ⟨_, results_tmp rfl _ _ _, by rw [hv.out]; rfl, ?_⟩
    exact hB.trans (belowK_b (w := w) (Nat.le_refl _) W D _ _ (Nat.le_trans hB2.size hD) hK rfl rfl)
  case stop =>
    rintro D cd pre W hD hpre ⟨⟨rfl, ds, x, rfl, hds, hx, P5⟩, hB⟩ hK
    have hv : Hid (whileN s G = x.1.1) := hide (whileN_stop (ds := ds.map (·.1)) (y := x.1) (by rw [List.map_append] at hpre; exact hpre) (fun y hy => by
      obtain ⟨z, hz, rfl⟩ := List.mem_map.1 hy
      exact hds z hz) hx)
    clear hds hx hpre
    have c5 := P5.cell
    have s5 := P5.lt
    gi_wp2
    rw [Exit.noGoto_ret]
    refine ⟨by simp, .inl ⟨_, _, rfl, run_takeDeferred hK, ?_⟩⟩
    refine ⟨_, results_tmp rfl _ _ _, by rw [hv.out]; rfl, ?_⟩
    exact hB.trans (belowK_b (w := w) (Nat.le_refl _) W D _ _ (Nat.le_trans hB2.size hD) hK rfl rfl)
end Go.Proofs.YtlianjnmfgakkaaDoor
