/- A range over a function, with a state of one's own: the iterator may change it between the rounds by calls of its own (HH); X: what the iterator says of the state, the value and the world in which it hands the value over. -/
import Derived.Test.YtlianjnmfgakkaaDoorChecked
import Derived.RangeFuncNested
import Derived.RangeFuncBound
import Derived.RangeFuncCalls
import Derived.RangeFuncLeaves
import Derived.RangeFuncWrites
namespace Go.Proofs.YtlianjnmfgakkaaDoor
open Go.RowKit

/-- an iterator's contract -/
def SeqS {α σ : Type} (F : Fence) (n : Nat) (P : Program) (g : Nat) (lb : Array Value) (encs : α → Array Value) (Kp Kx : World → World → Prop) (X : σ → α → World → Prop) (st : σ → α → σ) (HH : (σ → World → Prop) → Prop) (s0 : σ) (S Sp : σ → Prop) (w : World) : Prop :=
  ∀ (l : Nat) (J Jx : σ → World → Prop) (W : World), Below w.heap.size w W → AbidesFrom W.heap.size J → AbidesFrom W.heap.size Jx → HH J →
    (∀ s x W1, J s W1 → X s x W1 → YieldAt F (n - 1) P l (encs x) W1 fun e W' =>
      (e = .returned (.bool true) ∧ J (st s x) W' ∧ Kp W1 W') ∨ (e = .returned (.bool false) ∧ Jx (st s x) W' ∧ Kx W1 W')) →
    J s0 W → CallsIn F n P g (#[.func (.yield l) #[] #[]] ++ lb) W fun e W' => (∃ v, e = .returned v) ∧ ((∃ s, S s ∧ J s W') ∨ (∃ s, Sp s ∧ Jx s W'))

section
variable {F : Fence} {n : Nat} {P : Program}
/-- how the body of a round may be left -/
def ownPostS {σ : Type} (B : Nat) (Kp Kx : World → World → Prop) (I : σ → World → Prop) (Ix : Code → σ → World → Prop) (xs : σ) (W : World) : Exit → Act → World → Prop
  | .normal, _, W' => KeepsFrom B W W' ∧ Kp W W' ∧ I xs W'
  | .ret, _, W' => KeepsFrom B W W' ∧ Kx W W' ∧ Ix .ret xs W'
  | .exit id, _, W' => KeepsFrom B W W' ∧ Kx W W' ∧ Ix (.exit id) xs W'
  | .goto t, _, W' => KeepsFrom B W W' ∧ Kx W W' ∧ Ix (.goto t) xs W'
  | .panic _, _, _ => False
  | .outgrown, _, _ => False
/-- a turn of a block that is no cells -/
theorem turnedS {α : Type} {B : Nat} {I : α → World → Prop} (h : OwnFrom B I) {s : α} {W : World} {l : Nat} {o : Obj} (o' : Obj) (hs : I s W) (hB : B ≤ l) (hl : W.heap[l]? = some o) (ho : o.isCells = false) : I s (W.putObj l o') :=
  h.putObj o' hs hB hl ho
theorem rangeS {α σ : Type} {g : Operand} {ps : Array Tmp} {assign body : Code} {Q : Exit → Act → World → Prop} {a : Act} {w : World}
    (hro : F.round = none) (h1 : 1 ≤ n) {gf : Nat} {lb : Array Value} (hg : a.eval g = .func (.func gf) #[] lb) (hFg : F.fn gf) (eg : ∀ args w, (callFunc gf args).run P w = .ok (.enter gf args) w)
    {encs : α → Array Value} {Kp Kx : World → World → Prop} {X : σ → α → World → Prop} {st : σ → α → σ} {HH : (σ → World → Prop) → Prop} {s0 : σ} {S Sp : σ → Prop} {w0 : World} (hseq : SeqS F (n - 1) P gf lb encs Kp Kx X st HH s0 S Sp w0)
    (hKt : ∀ {A B C : World}, Kp A B → Kp B C → Kp A C) (hKb : ∀ (W : World) (l : Nat) (o o' : Obj), w.heap.size ≤ l → W.heap[l]? = some o → o.isCells = false → o.isWalk = false → Kp W (W.putObj l o'))
    (hKx1 : ∀ {A B C : World}, Kp A B → Kx B C → Kx A C) (hKx2 : ∀ {A B C : World}, Kx A B → Kp B C → Kx A C)
    (hX : ∀ s x (A B : World) row, X s x A → A.grownBy B row → (∀ r, row = some r → w.heap.size ≤ r ∧ ∃ o : Obj, A.heap[r]? = some o ∧ o.isCells = false) → X s x B) (hb0 : Below w0.heap.size w0 w) (hps : ∀ x, (encs x).size = ps.size)
    (I : σ → World → Prop) (Ix : Code → σ → World → Prop) (hI : OwnFrom w.heap.size I) (hIx : ∀ c, OwnFrom w.heap.size (Ix c)) (h0 : I s0 w)
    (hh : ∀ R : World → Prop, (∀ A B, R A → KeepsFrom w.heap.size A B → R B) → HH (fun s W => I s W ∧ R W)) (AB : α → Act → World → Prop)
    (hAB : ∀ x b (A B : World) row, AB x b A → A.grownBy B row → (∀ r, row = some r → w.heap.size ≤ r ∧ ∃ o : Obj, A.heap[r]? = some o ∧ o.isCells = false) → AB x b B)
    (hKa : ∀ (A B : World), w.heap.size ≤ A.heap.size → A.grownBy B none → Kp A B)
    (hassign : ∀ (l : Nat) (x : α) (W : World) (K : Act → World → Prop), (∀ b W', W.grownBy W' none → AB x b W' → K b W') →
      assign.wpIn (F.inRound l) (n - 1 - 1) P (Exit.then K (fun _ _ _ => False)) { tmps := (ps.zip (encs x)).foldl (fun t (p, v) => t.setIfInBounds p v) a.tmps, defers := [] } W)
    (hbody : ∀ (l : Nat) (s : σ) (x : α) (W : World), ∀ b, I s W → X s x W → AB x b W → body.wpIn (F.inRound l) (n - 1 - 1) P (ownPostS w.heap.size Kp Kx I Ix (st s x) W) b W)
    (hdone : ∀ (D : Nat) (xs : σ) (W : World), w.heap.size ≤ D → S xs → I xs W → W.heap[D]? = some (.deferred (some [])) → Q .normal { a with defers := { target := .collected D, args := #[] } :: a.defers } W)
    (hstop : ∀ (D : Nat) (c : Code) (pre : σ) (W : World), w.heap.size ≤ D → Sp pre → Ix c pre W → W.heap[D]? = some (.deferred (some [])) → c.wpIn F n P Q { a with defers := { target := .collected D, args := #[] } :: a.defers } W) :
    (Code.rangeFunc g ps assign body).wpIn F n P Q a w := by
  refine wpIn_rangeFunc fun fn hfn => ?_
  rw [hro]
  -- the loop's record, and the worlds in which it lies
  obtain ⟨rec, hrec⟩ : ∃ rec : LoopState → Option Code → Loop, rec = fun st pe => { state := st, pending := pe, fn, tmps := a.tmps, params := ps, assign, body, defers := w.heap.size } := ⟨_, rfl⟩
  obtain ⟨L, hL⟩ : ∃ L, L = w.heap.size + 1 := ⟨_, rfl⟩
  have hLw : w.heap.size ≤ L := by omega
  obtain ⟨W1, hW1⟩ : ∃ W1, W1 = (w.alloc (.deferred (some []))).alloc (.loop (rec .ready none)) := ⟨_, rfl⟩
  have size1 : W1.heap.size = L + 1 := by rw [hW1, hL]; simp
  have atL : W1.heap[L]? = some (.loop (rec .ready none)) := by
    have h := World.alloc_heap_new (w.alloc (.deferred (some []))) (.loop (rec .ready none))
    rw [World.size_alloc] at h
    rw [hW1, hL]; exact h
  have atD : W1.heap[w.heap.size]? = some (.deferred (some [])) := by
    rw [hW1]; exact (Below.heap_alloc _ _ _ (by simp)).trans (World.alloc_heap_new w _)
  have below1 : Below w0.heap.size w0 W1 := by
    rw [hW1]; exact hb0.trans ((((Below.refl _ w).alloc (Nat.le_refl _) _).alloc (by simp) _).mono hb0.size)
  have start : I s0 W1 := by rw [hW1]; exact hI.alloc _ (hI.alloc _ h0)
  have walks : ∀ {A : World} {row : Option Nat}, (∀ r, row = some r → W1.heap.size ≤ r ∧ ∃ o : Obj, A.heap[r]? = some o ∧ o.isWalk = true) → ∀ r, row = some r → w.heap.size ≤ r ∧ ∃ o : Obj, A.heap[r]? = some o ∧ o.isCells = false := by
    intro A row h r e
    obtain ⟨hB, o, ho, hw⟩ := h r e
    exact ⟨by omega, o, ho, Obj.not_cells_of_walk hw⟩
  -- the record turned: what stands
  have same_ : ∀ {W : World} {o : Obj} (o' : Obj), W.heap[L]? = some o → (W.putObj L o').heap[L]? = some o' := fun o' h => World.putObj_heap_same (Array.getElem?_eq_some_iff.1 h).1
  have other_ : ∀ {W : World} {v : Obj} (o' : Obj), W.heap[w.heap.size]? = some v → (W.putObj L o').heap[w.heap.size]? = some v := fun o' h => (World.putObj_heap_other (by omega)).trans h
  refine ⟨L, [{ target := .collected w.heap.size, args := #[] }], W1, { target := .fn (.func gf) lb, args := #[.func (.yield L) #[] #[]] }, W1, gf, #[.func (.yield L) #[] #[]] ++ lb, W1, ?_, ?_, ?_, ?_, fun _ => h1, ?_⟩
  · rw [hW1, hrec, hL]; exact run_enterLoop_outer _ _ _ _ _
  · simp only [resolve, hg]
    simp [go_sem]
  · intro f' hf'; simp [Target.leads] at hf'; subst hf'; exact hFg
  · simp [invoke, go_sem, eg]
  refine (hseq L (fun s W => I s W ∧ (W.heap[L]? = some (.loop (rec .ready none)) ∧ W.heap[w.heap.size]? = some (.deferred (some []))))
    (fun pre W => ∃ c, Ix c pre W ∧ W.heap[L]? = some (.loop (rec .done (some c))) ∧ W.heap[w.heap.size]? = some (.deferred (some []))) W1 below1 ?_ ?_ (hh _ ?_) ?_ ⟨start, atL, atD⟩).mono ?_
  · rintro s A B row ⟨hs, hl, hd⟩ hg' hr
    exact ⟨hI s A B row hs hg' (walks hr), (grownBy_keeps hg' (fun r e => (hr r e).2) hl rfl).trans hl, (grownBy_keeps hg' (fun r e => (hr r e).2) hd rfl).trans hd⟩
  · rintro s A B row ⟨c, hs, hl, hd⟩ hg' hr
    exact ⟨c, hIx c s A B row hs hg' (walks hr), (grownBy_keeps hg' (fun r e => (hr r e).2) hl rfl).trans hl, (grownBy_keeps hg' (fun r e => (hr r e).2) hd rfl).trans hd⟩
  · rintro A B ⟨hl, hd⟩ hk
    exact ⟨hk.same _ _ hLw hl rfl, hk.same _ _ (Nat.le_refl _) hd rfl⟩
  · -- a round
    rintro pre x Wa ⟨hia, hla, hda⟩ hxa
    have hy := run_yield (P := P) (args := encs x) hla (by rw [hrec]; exact hps x)
    rw [hrec] at hy
    have hWa : w.heap.size ≤ Wa.heap.size := by have := (Array.getElem?_eq_some_iff.1 hda).1; omega
    refine ⟨fn, _, assign, body, hy, roundIn_of_wpIn hfn (hassign _ x Wa _ fun b W hga hab => ?_)⟩
    have hl := (hga.block L (Array.getElem?_eq_some_iff.1 hla).1 (by simp)).trans hla
    have hd := (hga.block _ (Array.getElem?_eq_some_iff.1 hda).1 (by simp)).trans hda
    have hi := hI _ _ _ none hia hga (fun r e => by cases e)
    have hx := hX _ _ _ _ none hxa hga (fun r e => by cases e)
    have hka : Kp Wa W := hKa _ _ hWa hga
    refine ⟨_, run_beginRound hl (by rw [hrec]), ?_⟩
    obtain ⟨busy, hbusy⟩ : ∃ o : Obj, o = .loop { rec .ready none with state := .busy } := ⟨_, rfl⟩
    rw [← hbusy]
    have hl2 := same_ busy hl
    have hd2 := other_ busy hd
    have hk2 : Kp Wa (W.putObj L busy) := hKt hka (hKb _ _ _ _ hLw hl rfl rfl)
    refine wpIn_mono (hbody _ pre x _ b (turnedS hI busy hi hLw hl rfl) (hX _ _ _ _ (some L) hx (grownBy_putObj' W L busy) (fun r e => by cases e; exact ⟨hLw, _, hl, rfl⟩)) (hAB _ _ _ _ (some L) hab (grownBy_putObj' W L busy) (fun r e => by cases e; exact ⟨hLw, _, hl, rfl⟩))) ?_
    -- the round's end
    have fin : ∀ (jump : Option Code) (W3 : World), KeepsFrom w.heap.size (W.putObj L busy) W3 →
        ∃ st, st = (if jump.isNone then LoopState.ready else .done) ∧ (Instr.endRound L jump).run P W3 = .ok (.bool jump.isNone) (W3.putObj L (.loop (rec st jump))) ∧ W3.heap[L]? = some busy ∧
          (W3.putObj L (.loop (rec st jump))).heap[L]? = some (.loop (rec st jump)) ∧ (W3.putObj L (.loop (rec st jump))).heap[w.heap.size]? = some (.deferred (some [])) := by
      intro jump W3 hk
      have hl3 := hk.same _ _ hLw hl2 (by rw [hbusy]; rfl)
      have hd3 := hk.same _ _ (Nat.le_refl _) hd2 rfl
      have hl3' := hl3
      rw [hbusy] at hl3'
      have hr := run_endRound (P := P) jump hl3'
      rw [hrec] at hr ⊢
      exact ⟨_, rfl, hr, hl3, same_ _ hl3, other_ _ hd3⟩
    have leaves : ∀ (c : Code) (W3 : World), KeepsFrom w.heap.size (W.putObj L busy) W3 → Kx (W.putObj L busy) W3 → Ix c (st pre x) W3 →
        ∃ v W', (Instr.endRound L (some c)).run P W3 = .ok v W' ∧ v = .bool false ∧ (∃ c', Ix c' (st pre x) W' ∧ W'.heap[L]? = some (.loop (rec .done (some c'))) ∧ W'.heap[w.heap.size]? = some (.deferred (some []))) ∧ Kx Wa W' := by
      intro c W3 hk hkx hi3
      obtain ⟨st, rfl, hr, hl3, hl4, hd4⟩ := fin (some c) W3 hk
      exact ⟨_, _, hr, rfl, ⟨c, turnedS (hIx c) _ hi3 hLw hl3 (by rw [hbusy]; rfl), hl4, hd4⟩, hKx2 (hKx1 hk2 hkx) (hKb _ _ _ _ hLw hl3 (by rw [hbusy]; rfl) (by rw [hbusy]; rfl))⟩
    rintro e a3 W3 hp
    cases e with
    | normal =>
      obtain ⟨hk3, hkp3, hi3⟩ := hp
      obtain ⟨st, rfl, hr, hl3, hl4, hd4⟩ := fin none W3 hk3
      exact ⟨_, _, hr, .inl ⟨rfl, ⟨turnedS hI _ hi3 hLw hl3 (by rw [hbusy]; rfl), hl4, hd4⟩, hKt (hKt hk2 hkp3) (hKb _ _ _ _ hLw hl3 (by rw [hbusy]; rfl) (by rw [hbusy]; rfl))⟩⟩
    | ret =>
      obtain ⟨v, W', hr, hv, h⟩ := leaves .ret W3 hp.1 hp.2.1 hp.2.2
      exact ⟨v, W', hr, .inr ⟨by rw [hv], h⟩⟩
    | exit id =>
      obtain ⟨v, W', hr, hv, h⟩ := leaves (.exit id) W3 hp.1 hp.2.1 hp.2.2
      exact ⟨v, W', hr, .inr ⟨by rw [hv], h⟩⟩
    | goto t =>
      obtain ⟨v, W', hr, hv, h⟩ := leaves (.goto t) W3 hp.1 hp.2.1 hp.2.2
      exact ⟨v, W', hr, .inr ⟨by rw [hv], h⟩⟩
    | panic ch => exact hp.elim
    | outgrown => exact hp.elim
  · -- behind the iterator
    rintro e W2 ⟨⟨v, rfl⟩, (⟨xs, hS, hi, hl, hd⟩ | ⟨pre, hSp, c, hi, hl, hd⟩)⟩
    · have hr := run_endLoop (P := P) hl (by rw [hrec]; simp)
      rw [hrec] at hr
      exact ⟨none, _, hr, hdone _ xs _ (Nat.le_refl _) hS (turnedS hI _ hi hLw hl rfl) (other_ _ hd)⟩
    · have hr := run_endLoop (P := P) hl (by rw [hrec]; simp)
      rw [hrec] at hr
      exact ⟨some c, _, hr, hstop _ c pre _ (Nat.le_refl _) hSp (turnedS (hIx c) _ hi hLw hl rfl) (other_ _ hd)⟩
end
end Go.Proofs.YtlianjnmfgakkaaDoor
