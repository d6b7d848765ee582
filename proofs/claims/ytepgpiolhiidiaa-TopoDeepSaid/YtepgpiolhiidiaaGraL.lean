/- Rows of edges: copied, compared, found in, without doubles. -/
import Derived.Test.YtepgpiolhiidiaaGraS2
import Derived.Test.YtepgpiolhiidiaaMixE
namespace Go.Proofs.Ytepgpiolhiidiaa
open Go.RowKit

theorem own_empty {α : Type} {E : El α} (w : World) (e : TypeId) {base : Nat} (hb : base ≤ w.heap.size) : Own E e base (w.alloc (.cells #[] e)) (.slice (some ⟨w.heap.size, 0, none⟩) 0 0) [] :=
  World.ownsRow_made w #[] 0 hb (Nat.zero_le _) (by simp)

@[go_sem] theorem eqnil_Edge (w : World) (a : Option Addr) (n c : Nat) : (binOp .eql 22 (.slice a n c) (.slice none 0 0)).run Try.prog w = .ok (.bool a.isNone) w := Lib.run_eql_slice_nil w _ _ a n c 0 0 tyEdge.und
@[go_sem] theorem neqnil_Edge (w : World) (a : Option Addr) (n c : Nat) : (binOp .neq 22 (.slice a n c) (.slice none 0 0)).run Try.prog w = .ok (.bool (!a.isNone)) w := run_neq_slice_nil w _ _ a n c tyEdge.und
set_option maxHeartbeats 1000000 in
theorem clone_Edge (A : Option Addr) (n c : Nat) (xs : List (Int × Int × Int)) (w : World) (hn : n = xs.length) (h : Rd edgeE w.heap.size w A xs) (hb : n ≤ 1000000) :
    Calls Try.prog 30 #[.slice A n c] w fun e w' => ∃ v, e = .returned v ∧ Own edgeE 50 w.heap.size w' v xs ∧ Ext w w' := by
  replace hn := hide hn
  replace h := hide h
  cases A with
  | none =>
    have hx : xs = [] := by rcases h.out with h | ⟨_, _, h, _⟩; exact h; cases h
    replace hx := hide hx
    go_enter Try.func30, Try.ntmps30
    go_wp2
    go_ret
    exact ⟨_, rfl, by rw [hx.out]; exact Own.nil_, Below.refl _ _⟩
  | some ad =>
    go_enter Try.func30, Try.ntmps30
    go_wp2_with (at_builtin; refine wpList_app tyEdge rfl (.tmp 5) (.tmp 6) rfl rfl (own_empty w _ (Nat.le_refl _)) rfl (h.out.below ((Below.refl _ _).alloc (Nat.le_refl _) _)) hn.out (by rw [← hn.out]; simp; omega) (by simp) ?_)
    intro v1 w1 hown1 hg1 _ _
    have hE : Ext w w1 := (own_empty w _ (Nat.le_refl _)).below (E := edgeE) ((Below.refl _ _).alloc (Nat.le_refl _) _) hg1 (by simp)
    replace hown1 := hide hown1
    clear hg1
    go_wp2
    go_ret
    exact ⟨_, rfl, by simpa using hown1.out, hE⟩
/-- a row without those that are the same as the one ahead -/
def uniq {α : Type} (ne : α → α → Bool) (xs : List α) : List α := xs.foldl (fun out x => match out.getLast? with | some y => if ne y x then out ++ [x] else out | none => [x]) []
theorem uniq_snoc {α : Type} (ne : α → α → Bool) (xs : List α) (x : α) :
    uniq ne (xs ++ [x]) = match (uniq ne xs).getLast? with | some y => if ne y x then uniq ne xs ++ [x] else uniq ne xs | none => [x] := by
  simp [uniq]

/-- where something stands, or would: a place between what is less and what is not -/
def Between {α : Type} (ask : α → Int) (xs : List α) (k : Nat) : Prop := k ≤ xs.length ∧ (∀ x, 0 < k → xs[k - 1]? = some x → ask x < 0) ∧ (∀ x, xs[k]? = some x → 0 ≤ ask x)

theorem uniq_len {α : Type} (ne : α → α → Bool) (xs : List α) : (uniq ne xs).length ≤ xs.length := by
  suffices ∀ n (xs : List α), xs.length = n → (uniq ne xs).length ≤ n from this _ _ rfl
  intro n
  induction n with
  | zero => intro xs h; rw [List.eq_nil_of_length_eq_zero h]; simp [uniq]
  | succ n ih =>
    intro xs h
    obtain ⟨ys, x, rfl⟩ : ∃ ys x, xs = ys ++ [x] := ⟨xs.dropLast, xs.getLast (by intro h'; subst h'; simp at h), (List.dropLast_concat_getLast _).symm⟩
    have := ih ys (by simpa using h)
    rw [uniq_snoc]
    split
    · split <;> simp <;> omega
    · simp
/-- the last one told is one with the last one of the row -/
theorem uniq_last {α : Type} (ne : α → α → Bool) (hne : ∀ x y z, ne x y = false → ne x z = ne y z) : ∀ (xs : List α) (x : α), xs.getLast? = some x → ∃ y, (uniq ne xs).getLast? = some y ∧ ∀ z, ne y z = ne x z := by
  intro xs x h
  obtain ⟨ys, rfl⟩ : ∃ ys, xs = ys ++ [x] := by
    rcases List.eq_nil_or_concat xs with rfl | ⟨ys, y, rfl⟩
    · simp at h
    · simp at h; subst h; exact ⟨ys, by simp⟩
  rw [uniq_snoc]
  cases hu : (uniq ne ys).getLast? with
  | none => exact ⟨x, by simp, fun _ => rfl⟩
  | some u =>
    simp only
    cases hx : ne u x
    · exact ⟨u, by simp [hu], fun z => hne _ _ _ hx⟩
    · exact ⟨x, by simp, fun _ => rfl⟩
/-- does it stand there? -/
def foundB {α : Type} (ask : α → Int) (xs : List α) (k : Nat) : Bool := match xs[k]? with | some x => ask x == 0 | none => false
theorem foundB_some {α : Type} {ask : α → Int} {xs : List α} {k : Nat} {x : α} (h : xs[k]? = some x) : foundB ask xs k = (ask x == 0) := by simp [foundB, h]
theorem foundB_none {α : Type} {ask : α → Int} {xs : List α} {k : Nat} (h : xs.length ≤ k) : foundB ask xs k = false := by simp [foundB, List.getElem?_eq_none h]

/-- the closure asked: what it says of an element, in whatever world that has grown from w -/
def Asks_Edge (g : Nat) (cb : Array Value) (ask : (Int × Int × Int) → Int) (w : World) : Prop := (∀ args W, (callFunc g args).run Try.prog W = .ok (.enter g args) W) ∧ ∀ p1 p2 p3 W, Ext w W → Calls Try.prog g (#[.agg #[.int .i64 p1, .int .i64 p2, .int .i64 p3]] ++ cb) W fun e w' => e = .returned (.int .i64 (ask (p1, p2, p3))) ∧ Ext W w'

set_option maxHeartbeats 2000000 in
theorem unique_Edge (A : Option Addr) (n c : Nat) (xs : List (Int × Int × Int)) (w : World) (hn : n = xs.length) (h : Rd edgeE w.heap.size w A xs) (hb : n ≤ 1000000) :
    Calls Try.prog 66 #[.slice A n c] w fun e w' => ∃ v, e = .returned v ∧ Own edgeE 50 w.heap.size w' v (uniq neE xs) ∧ Ext w w' := by
  replace hn := hide hn
  replace h := hide h
  go_enter Try.func66, Try.ntmps66
  go_wp2
  go_loopw [3, 8] (fun o i wr => ∃ k : Nat, k ≤ n ∧ i = .int .i64 k ∧ Hid (Own edgeE 50 w.heap.size wr o (uniq neE (xs.take k))) ∧ Below w.heap.size w wr) (fun _ i _ => n - (intOf i).toNat)
  case atStart => exact ⟨0, by omega, rfl, hide Own.nil_, Below.refl _ _⟩
  case round =>
    obtain ⟨k, hk, rfl, hown, hB⟩ := hrel
    obtain ⟨hc, hf⟩ := bcell hB
    have hsz := hB.size
    by_cases hlt : k < n
    · obtain ⟨b, off, rfl, hra⟩ := h.out.at_ (i := k) (by rw [← hn.out]; exact hlt)
      have hb1 := hra.1
      obtain ⟨⟨p1, p2, p3⟩, hx⟩ := get_some (i := k) (by rw [← hn.out]; exact hlt)
      obtain ⟨hx1, hx2, hx3⟩ := hra.edge hx
      replace hx := hide hx
      have hk1 : (k : Int) < (n : Int) := by omega
      have hul : (uniq neE (xs.take k)).length ≤ 1000000 := by have := uniq_len neE (xs.take k); rw [List.length_take] at this; omega
      have hb' : b < wr.heap.size := by omega
      by_cases hk0 : k = 0
      · have hkB : ((k : Int) == 0) = true := by simp [hk0]
        have hu0 : uniq neE (xs.take k ++ [(p1, p2, p3)]) = uniq neE (xs.take k) ++ [(p1, p2, p3)] := by rw [hk0]; simp [uniq]
        replace hu0 := hide hu0
        replace hra := hide hra
        clear hk0
        go_wp2
        refine wp_region_reads [(0, true), (1, true), (2, true), (3, true), (4, true), (5, true), (6, true), (7, true), (8, true), (9, true), (10, true)] (by kernel_rfl) (by kernel_rfl) (by kernel_rfl) (by kernel_rfl) (fun _ _ d _ _ h => by cases d <;> exact h) ?_
        iterate 3
          apply mix_q rfl rfl
          · intro W hW
            subst hW
            go_simp
            try exact rfl
          simp only [Act.put, List.setIfInBounds_toArray, List.set_cons_zero, List.set_cons_succ]
        iterate 7
          refine mix_off rfl (wanted_is rfl rfl rfl rfl rfl) ?_
          simp only [Act.put, List.setIfInBounds_toArray, List.set_cons_zero, List.set_cons_succ]
        iterate 1
          apply mix_q rfl rfl
          · intro W hW
            subst hW
            go_simp
            try exact rfl
          simp only [Act.put, List.setIfInBounds_toArray, List.set_cons_zero, List.set_cons_succ]
        refine mix_nil ?_
        go_wp2_with (at_builtin; (refine wpList_app (ys := [(p1, p2, p3)]) tyEdge rfl (.tmp 24) (.tmp 26) rfl rfl (((hown.out.alloc (.cells #[.int .i64 p1, .int .i64 p2, .int .i64 p3] 50)).alloc _).drew) rfl (Rd.drew (rd_newAt edgeE (wr.alloc (.cells #[.int .i64 p1, .int .i64 p2, .int .i64 p3] 50)) (p1, p2, p3) (wr.heap.size + 1) (by simp))) rfl (by first | omega | (simp only [List.length_cons, List.length_nil]; omega) | (simp; omega)) (by first | omega | (simp only [World.size_alloc, World.size_drew]; omega)) ?_))
        intro v3 w3 hown3 hg3 _ _
        have hoA := ((hown.out.alloc (.cells #[.int .i64 p1, .int .i64 p2, .int .i64 p3] 50)).alloc (.cells #[.int .i64 p1, .int .i64 p2, .int .i64 p3] 50)).drew
        have hB3 : Below w.heap.size w w3 := hoA.below ((hB.alloc hsz _).alloc (by simp; omega) _).drew hg3 (by simp; omega)
        replace hown3 := hide hown3
        clear hoA hg3
        go_wp2
        refine ⟨?_, ?_⟩
        · first
            | exact ⟨k + 1, by omega, by go_num, hide (by rw [take_snoc hx.out, hu0.out]; exact hown3.out), hB3⟩
            | ((repeat apply Exists.intro); exact ⟨⟨k + 1, by omega, by go_num, hide (by rw [take_snoc hx.out, hu0.out]; exact hown3.out), hB3⟩, rfl⟩)
        · first | (simp [intOf, lenV]; omega) | (simp [intOf]; omega) | (simp [intOf]; done)
      · have hkB : ((k : Int) == 0) = false := by simp; omega
        obtain ⟨⟨q1, q2, q3⟩, hy⟩ := get_some (i := (k) - 1) (by rw [← hn.out]; omega)
        obtain ⟨hy1, hy2, hy3⟩ := hra.edge hy
        replace hy := hide hy
        have s1 : IntKind.i64.wrap ((k : Int) - 1) = (k : Int) - 1 := IntWalk.i64_in _ (by omega)
        have s2 : (0 : Int) ≤ (k : Int) - 1 := by omega
        have s3 : ((k : Int) - 1).toNat = k - 1 := by omega
        have s4 : (k : Int) - 1 < (n : Int) := by omega
        have s5 : (1 : Int) ≤ (k : Int) := by omega
        have hlast := hide (uniq_last neE neE_cong (xs.take k) (q1, q2, q3) (by
          have := hy.out
          rw [List.getLast?_eq_getElem?, List.length_take, Nat.min_eq_left (by rw [← hn.out]; omega), List.getElem?_take, if_pos (by omega)]
          exact this))
        replace hra := hide hra
        go_wp2
        refine wp_region_reads [(0, true), (1, true), (2, true), (3, true), (4, true), (5, true), (6, true), (7, true), (8, true), (9, true), (10, true)] (by kernel_rfl) (by kernel_rfl) (by kernel_rfl) (by kernel_rfl) (fun _ _ d _ _ h => by cases d <;> exact h) ?_
        iterate 3
          apply mix_q rfl rfl
          · intro W hW
            subst hW
            go_simp
            try exact rfl
          simp only [Act.put, List.setIfInBounds_toArray, List.set_cons_zero, List.set_cons_succ]
        iterate 7
          apply mix_on rfl (wanted_is rfl rfl rfl rfl rfl)
          · intro W hW
            subst hW
            go_simp
            try exact rfl
          simp only [Act.put, List.setIfInBounds_toArray, List.set_cons_zero, List.set_cons_succ]
        iterate 1
          apply mix_q rfl rfl
          · intro W hW
            subst hW
            go_simp
            try exact rfl
          simp only [Act.put, List.setIfInBounds_toArray, List.set_cons_zero, List.set_cons_succ]
        refine mix_nil ?_
        cases hne : neE (q1, q2, q3) (p1, p2, p3)
        · go_wp2
          refine ⟨?_, ?_⟩
          · first
              | exact ⟨k + 1, by omega, by go_num, hide (by rw [take_snoc hx.out, uniq_snoc]; obtain ⟨y, h1, h2⟩ := hlast.out; rw [h1]; simp only [h2 (p1, p2, p3), hne]; exact hown.out.alloc _), (hB.alloc hsz _).drew⟩
              | ((repeat apply Exists.intro); exact ⟨⟨k + 1, by omega, by go_num, hide (by rw [take_snoc hx.out, uniq_snoc]; obtain ⟨y, h1, h2⟩ := hlast.out; rw [h1]; simp only [h2 (p1, p2, p3), hne]; exact hown.out.alloc _), (hB.alloc hsz _).drew⟩, rfl⟩)
          · first | (simp [intOf, lenV]; omega) | (simp [intOf]; omega) | (simp [intOf]; done)
        · go_wp2_with (at_builtin; (refine wpList_app (ys := [(p1, p2, p3)]) tyEdge rfl (.tmp 24) (.tmp 26) rfl rfl (((hown.out.alloc (.cells #[.int .i64 p1, .int .i64 p2, .int .i64 p3] 50)).alloc _).drew) rfl (Rd.drew (rd_newAt edgeE (wr.alloc (.cells #[.int .i64 p1, .int .i64 p2, .int .i64 p3] 50)) (p1, p2, p3) (wr.heap.size + 1) (by simp))) rfl (by first | omega | (simp only [List.length_cons, List.length_nil]; omega) | (simp; omega)) (by first | omega | (simp only [World.size_alloc, World.size_drew]; omega)) ?_))
          intro v3 w3 hown3 hg3 _ _
          have hoA := ((hown.out.alloc (.cells #[.int .i64 p1, .int .i64 p2, .int .i64 p3] 50)).alloc (.cells #[.int .i64 p1, .int .i64 p2, .int .i64 p3] 50)).drew
          have hB3 : Below w.heap.size w w3 := hoA.below ((hB.alloc hsz _).alloc (by simp; omega) _).drew hg3 (by simp; omega)
          replace hown3 := hide hown3
          clear hoA hg3
          go_wp2
          refine ⟨?_, ?_⟩
          · first
              | exact ⟨k + 1, by omega, by go_num, hide (by rw [take_snoc hx.out, uniq_snoc]; obtain ⟨y, h1, h2⟩ := hlast.out; rw [h1]; simp only [h2 (p1, p2, p3), hne]; exact hown3.out), hB3⟩
              | ((repeat apply Exists.intro); exact ⟨⟨k + 1, by omega, by go_num, hide (by rw [take_snoc hx.out, uniq_snoc]; obtain ⟨y, h1, h2⟩ := hlast.out; rw [h1]; simp only [h2 (p1, p2, p3), hne]; exact hown3.out), hB3⟩, rfl⟩)
          · first | (simp [intOf, lenV]; omega) | (simp [intOf]; omega) | (simp [intOf]; done)
    · have hkn : k = n := by omega
      go_wp2
      go_ret
      refine ⟨_, rfl, ?_, hB⟩
      have := hown.out
      rw [List.take_of_length_le (by rw [← hn.out]; omega)] at this
      exact this
end Go.Proofs.Ytepgpiolhiidiaa
