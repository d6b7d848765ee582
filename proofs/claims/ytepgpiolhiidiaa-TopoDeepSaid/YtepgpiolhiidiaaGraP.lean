/- Graphs, plainly: which may be; edges in order, each once. -/
import Derived.Test.YtepgpiolhiidiaaGraL
namespace Go.Proofs.Ytepgpiolhiidiaa
open Go.RowKit

section
variable {α : Type} {lt ne : α → α → Bool}
theorem uniq_strict (h : SWO lt) (hne : ∀ x y, ne x y = false ↔ x = y) (htot : ∀ a b, lt a b = false → lt b a = false → a = b) :
    ∀ (n : Nat) (xs : List α), xs.length = n → srt lt xs → (uniq ne xs).Pairwise (fun a b => lt a b = true) ∧ (∀ x, x ∈ uniq ne xs ↔ x ∈ xs) ∧ (uniq ne xs)[0]? = xs[0]?
  | 0, xs, hl, _ => by
    have : xs = [] := List.eq_nil_of_length_eq_zero hl
    subst this
    exact ⟨List.Pairwise.nil, fun _ => Iff.rfl, rfl⟩
  | n + 1, xs, hl, hs => by
    obtain ⟨ys, x, rfl⟩ : ∃ ys x, xs = ys ++ [x] := by
      rcases List.eq_nil_or_concat xs with rfl | ⟨ys, y, rfl⟩
      · simp at hl
      · exact ⟨ys, y, by simp⟩
    have hys : srt lt ys := (List.pairwise_append.1 hs).1
    have hx : ∀ y ∈ ys, lt x y = false := fun y hy => (List.pairwise_append.1 hs).2.2 y hy x (by simp)
    obtain ⟨ih1, ih2, ih3⟩ := uniq_strict h hne htot n ys (by simpa using hl) hys
    rw [uniq_snoc]
    cases hl' : (uniq ne ys).getLast? with
    | none =>
      have he : uniq ne ys = [] := by simpa using hl'
      have hy : ys = [] := by
        cases ys with
        | nil => rfl
        | cons z zs => have := (ih2 z).2 (by simp); rw [he] at this; simp at this
      subst hy
      exact ⟨by simp, fun _ => Iff.rfl, rfl⟩
    | some y =>
      obtain ⟨us, hus⟩ : ∃ us, uniq ne ys = us ++ [y] := by
        obtain ⟨us, e⟩ := List.getLast?_eq_some_iff.1 hl'
        exact ⟨us, e⟩
      have hyy : y ∈ ys := (ih2 y).1 (by rw [hus]; simp)
      simp only
      by_cases hxy : ne y x = true
      · rw [if_pos hxy]
        have hyx : lt y x = true := by
          cases h1 : lt y x
          · have := htot y x h1 (hx y hyy)
            rw [(hne y x).2 this] at hxy
            cases hxy
          · rfl
        refine ⟨List.pairwise_append.2 ⟨ih1, by simp, fun a ha b hb => ?_⟩, fun z => by simp [ih2], ?_⟩
        · obtain rfl : b = x := by simpa using hb
          rw [hus] at ha ih1
          rcases List.mem_append.1 ha with ha | ha
          · exact h.tr a y b ((List.pairwise_append.1 ih1).2.2 a ha y (by simp)) hyx
          · obtain rfl : a = y := by simpa using ha
            exact hyx
        · have hpos : 0 < (uniq ne ys).length := by rw [hus]; simp
          have hposy : 0 < ys.length := List.length_pos_of_mem hyy
          rw [List.getElem?_append_left hpos, List.getElem?_append_left hposy, ih3]
      · rw [if_neg hxy]
        have : y = x := (hne y x).1 (by simpa using hxy)
        subst this
        have hposy : 0 < ys.length := List.length_pos_of_mem hyy
        refine ⟨ih1, fun z => ⟨fun hz => by simp [(ih2 z).1 hz], fun hz => ?_⟩, ?_⟩
        · rcases List.mem_append.1 hz with hz | hz
          · exact (ih2 z).2 hz
          · obtain rfl : z = y := by simpa using hz
            exact (ih2 z).2 hyy
        · rw [List.getElem?_append_left hposy, ih3]

end
/-- in order, each once -/
def Strict (l : List (Int × Int × Int)) : Prop := l.Pairwise fun a b => ltE a b = true
theorem strict_ext : ∀ {xs ys : List (Int × Int × Int)}, Strict xs → Strict ys → (∀ z, z ∈ xs ↔ z ∈ ys) → xs = ys
  | [], [], _, _, _ => rfl
  | [], y :: ys, _, _, h => by have := (h y).2 (by simp); simp at this
  | x :: xs, [], _, _, h => by have := (h x).1 (by simp); simp at this
  | x :: xs, y :: ys, hx, hy, h => by
    have hx' := List.pairwise_cons.1 hx
    have hy' := List.pairwise_cons.1 hy
    have hxy : x = y := by
      rcases List.mem_cons.1 ((h x).1 (by simp)) with e | e
      · exact e
      · rcases List.mem_cons.1 ((h y).2 (by simp)) with e' | e'
        · exact e'.symm
        · have h1 := hy'.1 x e
          have h2 := hx'.1 y e'
          rw [swo_E.asym h1] at h2
          cases h2
    subst hxy
    rw [strict_ext hx'.2 hy'.2]
    intro z
    constructor
    · intro hz
      rcases List.mem_cons.1 ((h z).1 (by simp [hz])) with e | e
      · subst e
        have h1 := hx'.1 z hz
        rw [swo_E.irr] at h1
        cases h1
      · exact e
    · intro hz
      rcases List.mem_cons.1 ((h z).2 (by simp [hz])) with e | e
      · subst e
        have h1 := hy'.1 z hz
        rw [swo_E.irr] at h1
        cases h1
      · exact e
/-- edges in order, each once -/
def ofE (l : List (Int × Int × Int)) : List (Int × Int × Int) := uniq neE (isort ltE l)
theorem ofE_strict (l : List (Int × Int × Int)) : Strict (ofE l) := (uniq_strict swo_E neE_iff totE _ _ rfl (srt_isort swo_E l)).1
theorem mem_ofE (l : List (Int × Int × Int)) (x : Int × Int × Int) : x ∈ ofE l ↔ x ∈ l := by
  rw [ofE, (uniq_strict swo_E neE_iff totE _ _ rfl (srt_isort swo_E l)).2.1]
  exact (isort_perm l).mem_iff
theorem ofE_self {l : List (Int × Int × Int)} (h : Strict l) : ofE l = l := strict_ext (ofE_strict l) h fun z => mem_ofE l z
theorem ofE_len (l : List (Int × Int × Int)) : (ofE l).length ≤ l.length := by
  have := uniq_len neE (isort ltE l)
  rw [length_isort] at this
  exact this
theorem ofE_congr {a b : List (Int × Int × Int)} (h : ∀ z, z ∈ a ↔ z ∈ b) : ofE a = ofE b := strict_ext (ofE_strict a) (ofE_strict b) fun z => by rw [mem_ofE, mem_ofE, h]
/-- holds at each place -/
def allH {α : Type} (H : Nat → α → Bool) (xs : List α) : Bool := xs.zipIdx.all fun p => H p.2 p.1
theorem allH_iff {α : Type} (H : Nat → α → Bool) (xs : List α) : allH H xs = true ↔ ∀ i x, xs[i]? = some x → H i x = true := by
  unfold allH
  rw [List.all_eq_true]
  constructor
  · intro h i x hx
    exact h (x, i) (List.mem_zipIdx_iff_getElem?.2 hx)
  · rintro h ⟨x, i⟩ hp
    exact h i x (List.mem_zipIdx_iff_getElem?.1 hp)
theorem allH_false {α : Type} {H : Nat → α → Bool} {xs : List α} {i : Nat} {x : α} (hx : xs[i]? = some x) (h : H i x = false) : allH H xs = false := by
  cases ha : allH H xs with
  | false => rfl
  | true => have := (allH_iff H xs).1 ha i x hx; rw [h] at this; cases this
theorem allH_true {α : Type} {H : Nat → α → Bool} {xs : List α} {k : Nat} (hk : xs.length ≤ k) (h : ∀ i x, i < k → xs[i]? = some x → H i x = true) : allH H xs = true := by
  rw [allH_iff]
  intro i x hx
  exact h i x (by have := (List.getElem?_eq_some_iff.1 hx).1; omega) hx
/-- does an edge stand right behind the one ahead of it? -/
def stepE (n : Int) (xs : List (Int × Int × Int)) (i : Nat) (x : Int × Int × Int) : Bool := rightE n x && (decide (i = 0) || ltE (xs.getD (i - 1) (0, 0, 0)) x)
def rightG (n : Int) (xs : List (Int × Int × Int)) : Bool := (decide (0 ≤ n) && (decide (n ≤ 300) && decide (xs.length ≤ 40000))) && allH (stepE n xs) xs
theorem strict_step : ∀ {l : List (Int × Int × Int)}, (∀ i x, l[i]? = some x → i = 0 ∨ ltE (l.getD (i - 1) (0, 0, 0)) x = true) → Strict l
  | [], _ => List.Pairwise.nil
  | [x], _ => List.pairwise_singleton _ _
  | x :: y :: l, h => by
    have h1 : Strict (y :: l) := strict_step fun i z hz => by
      rcases h (i + 1) z (by simpa using hz) with h | h
      · omega
      · cases i with
        | zero => exact .inl rfl
        | succ i => exact .inr (by simpa using h)
    have h2 : ltE x y = true := by
      rcases h 1 y rfl with h | h
      · omega
      · simpa using h
    refine List.pairwise_cons.2 ⟨fun z hz => ?_, h1⟩
    rcases List.mem_cons.1 hz with e | e
    · rw [e]; exact h2
    · exact swo_E.tr _ _ _ h2 ((List.pairwise_cons.1 h1).1 z e)
theorem rightG_iff (n : Int) (xs : List (Int × Int × Int)) : rightG n xs = true ↔ 0 ≤ n ∧ n ≤ 300 ∧ xs.length ≤ 40000 ∧ (∀ x ∈ xs, rightE n x = true) ∧ Strict xs := by
  unfold rightG
  simp only [Bool.and_eq_true, decide_eq_true_eq, allH_iff]
  constructor
  · rintro ⟨⟨h1, h2, h3⟩, h4⟩
    refine ⟨h1, h2, h3, fun x hx => ?_, strict_step fun i x hx => ?_⟩
    · obtain ⟨i, hi⟩ := List.mem_iff_getElem?.1 hx
      have := h4 i x hi
      unfold stepE at this
      rw [Bool.and_eq_true] at this
      exact this.1
    · have := h4 i x hx
      unfold stepE at this
      rw [Bool.and_eq_true, Bool.or_eq_true, decide_eq_true_eq] at this
      exact this.2
  · rintro ⟨h1, h2, h3, h4, h5⟩
    refine ⟨⟨h1, h2, h3⟩, fun i x hx => ?_⟩
    unfold stepE
    rw [Bool.and_eq_true, Bool.or_eq_true, decide_eq_true_eq]
    refine ⟨h4 x (List.mem_of_getElem? hx), ?_⟩
    by_cases h0 : i = 0
    · exact .inl h0
    · right
      obtain ⟨hi, ei⟩ := List.getElem?_eq_some_iff.1 hx
      have := List.pairwise_iff_getElem.1 h5 (i - 1) i (by omega) hi (by omega)
      rw [ei] at this
      rw [List.getD_eq_getElem?_getD, List.getElem?_eq_getElem (by omega), Option.getD_some]
      exact this
/-! ### One edge more, by the document -/
def withStep (e : Int × Int × Int) (s : List (Int × Int × Int) × Bool) (x : Int × Int × Int) : List (Int × Int × Int) × Bool :=
  let s1 := if (!s.2 && !ltE x e) = true then (s.1 ++ [e], true) else s
  if neE x e = true then (s1.1 ++ [x], s1.2) else s1
def withF (e : Int × Int × Int) (l : List (Int × Int × Int)) : List (Int × Int × Int) × Bool := l.foldl (withStep e) ([], false)
def withL (l : List (Int × Int × Int)) (e : Int × Int × Int) : List (Int × Int × Int) := if (withF e l).2 = true then (withF e l).1 else (withF e l).1 ++ [e]
theorem withF_snoc (e : Int × Int × Int) (l : List (Int × Int × Int)) (x : Int × Int × Int) : withF e (l ++ [x]) = withStep e (withF e l) x := by simp [withF]
theorem snocI3 {α : Type} {P : List α → Prop} (h0 : P []) (h1 : ∀ l x, P l → P (l ++ [x])) : ∀ l, P l := by
  intro l
  suffices ∀ n (l : List α), l.length = n → P l from this _ l rfl
  intro n
  induction n with
  | zero => intro l h; rw [List.eq_nil_of_length_eq_zero h]; exact h0
  | succ n ih =>
    intro l h
    rcases List.eq_nil_or_concat l with rfl | ⟨ys, y, rfl⟩
    · simp at h
    · rw [List.concat_eq_append] at h ⊢
      exact h1 _ _ (ih _ (by simpa using h))
theorem withF_len (e : Int × Int × Int) (l : List (Int × Int × Int)) : (withF e l).1.length ≤ 2 * l.length := by
  refine snocI3 (P := fun l => (withF e l).1.length ≤ 2 * l.length) (by simp [withF]) (fun l x ih => ?_) l
  rw [withF_snoc]
  unfold withStep
  simp only
  split <;> split <;> simp <;> omega
theorem withF_is (e : Int × Int × Int) : ∀ l, Strict l → withF e l = if (l.all fun x => ltE x e) = true then (l, false) else (l.filter (fun x => ltE x e) ++ [e] ++ l.filter (fun x => ltE e x), true) := by
  refine snocI3 ?_ ?_
  · intro _; rfl
  · intro l x ih hs
    have hl : Strict l := (List.pairwise_append.1 hs).1
    have hlx : ∀ y ∈ l, ltE y x = true := fun y hy => (List.pairwise_append.1 hs).2.2 y hy x (by simp)
    rw [withF_snoc, ih hl]
    by_cases ha : (l.all fun x => ltE x e) = true
    · rw [if_pos ha]
      have hal := List.all_eq_true.1 ha
      have hf1 : l.filter (fun x => ltE x e) = l := List.filter_eq_self.2 hal
      have hf2 : l.filter (fun x => ltE e x) = [] := List.filter_eq_nil_iff.2 fun y hy => by rw [swo_E.asym (hal y hy)]; simp
      cases hx : ltE x e with
      | true =>
        have hne : neE x e = true := by
          cases h : neE x e with
          | true => rfl
          | false => rw [(neE_iff x e).1 h, swo_E.irr] at hx; cases hx
        rw [if_pos (by rw [List.all_append, ha]; simp [hx])]
        unfold withStep
        simp [hx, hne]
      | false =>
        rw [if_neg (by rw [List.all_append, ha]; simp [hx])]
        unfold withStep
        simp only [hx]
        rw [List.filter_append, List.filter_append, hf1, hf2]
        cases hne : neE x e with
        | true =>
          have hex : ltE e x = true := by
            cases h : ltE e x with
            | true => rfl
            | false => rw [(neE_iff x e).2 (totE _ _ hx h)] at hne; cases hne
          simp [hx, hex]
        | false =>
          obtain rfl := (neE_iff x e).1 hne
          simp [swo_E.irr]
    · rw [if_neg ha]
      obtain ⟨y, hy, hye⟩ : ∃ y ∈ l, ltE y e = false := by
        have : (l.all fun x => ltE x e) = false := by simpa using ha
        obtain ⟨y, hy, h⟩ := List.all_eq_false.1 this
        exact ⟨y, hy, by simpa using h⟩
      have hex : ltE e x = true := by
        have h1 := hlx y hy
        cases h : ltE e x with
        | true => rfl
        | false =>
          have := swo_E.inc _ _ _ hye h
          rw [h1] at this; cases this
      have hxe := swo_E.asym hex
      have hne : neE x e = true := by
        cases h : neE x e with
        | true => rfl
        | false => rw [(neE_iff x e).1 h, swo_E.irr] at hex; cases hex
      rw [if_neg (by rw [List.all_append]; simp [hxe])]
      unfold withStep
      simp [hne, List.filter_append, hex, hxe]
theorem withL_is (e : Int × Int × Int) (l : List (Int × Int × Int)) (h : Strict l) : Strict (withL l e) ∧ ∀ z, z ∈ withL l e ↔ z ∈ l ∨ z = e := by
  unfold withL
  rw [withF_is e l h]
  by_cases ha : (l.all fun x => ltE x e) = true
  · rw [if_pos ha]
    simp only [Bool.false_eq_true, if_false]
    have hal := List.all_eq_true.1 ha
    refine ⟨List.pairwise_append.2 ⟨h, by simp, fun y hy b hb => ?_⟩, fun z => by simp⟩
    rw [List.mem_singleton] at hb
    rw [hb]
    exact hal y hy
  · rw [if_neg ha]
    simp only [if_true]
    refine ⟨?_, fun z => ?_⟩
    · rw [List.append_assoc]
      refine List.pairwise_append.2 ⟨List.Pairwise.filter _ h, ?_, ?_⟩
      · refine List.pairwise_append.2 ⟨by simp, List.Pairwise.filter _ h, fun a ha b hb => ?_⟩
        rw [List.mem_singleton] at ha
        subst ha
        exact (List.mem_filter.1 hb).2
      · intro a ha b hb
        have h1 := (List.mem_filter.1 ha).2
        rcases List.mem_append.1 hb with hb | hb
        · rw [List.mem_singleton] at hb; rw [hb]; exact h1
        · exact swo_E.tr _ _ _ h1 (List.mem_filter.1 hb).2
    · simp only [List.mem_append, List.mem_filter, List.mem_singleton]
      constructor
      · rintro ((h | h) | h)
        · exact .inl h.1
        · exact .inr h
        · exact .inl h.1
      · rintro (hz | hz)
        · cases h1 : ltE z e with
          | true => exact .inl (.inl ⟨hz, rfl⟩)
          | false =>
            cases h2 : ltE e z with
            | true => exact .inr ⟨hz, rfl⟩
            | false => exact .inl (.inr (totE _ _ h1 h2))
        · exact .inl (.inr hz)
theorem with_fold (l : List (Int × Int × Int)) : ∀ acc, Strict acc → Strict (l.foldl withL acc) ∧ ∀ z, z ∈ l.foldl withL acc ↔ z ∈ acc ∨ z ∈ l := by
  induction l with
  | nil => intro acc h; exact ⟨h, fun z => by simp⟩
  | cons x l ih =>
    intro acc h
    obtain ⟨h1, h2⟩ := withL_is x acc h
    obtain ⟨h3, h4⟩ := ih _ h1
    refine ⟨h3, fun z => ?_⟩
    rw [List.foldl_cons, h4, h2, List.mem_cons]
    constructor
    · rintro ((h | h) | h)
      · exact .inl h
      · exact .inr (.inl h)
      · exact .inr (.inr h)
    · rintro (h | h | h)
      · exact .inl (.inl h)
      · exact .inl (.inr h)
      · exact .inr h
/-- the document's Of is ours -/
theorem ofE_with (l : List (Int × Int × Int)) : l.foldl withL [] = ofE l := by
  obtain ⟨h1, h2⟩ := with_fold l [] List.Pairwise.nil
  exact strict_ext h1 (ofE_strict l) fun z => by rw [h2, mem_ofE]; simp
theorem with_len (l : List (Int × Int × Int)) : (l.foldl withL []).length ≤ l.length := by rw [ofE_with]; exact ofE_len l
end Go.Proofs.Ytepgpiolhiidiaa
