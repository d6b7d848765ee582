/- Plain lists, no program in sight: stable sorting by a strict weak order; merging; the sorted list is unique. -/
namespace Go.Proofs.YtlianjnmfgakkaaDoor
section
variable {α : Type} (lt : α → α → Bool)

structure SWO : Prop where
  irr : ∀ a, lt a a = false
  tr : ∀ a b c, lt a b = true → lt b c = true → lt a c = true
  inc : ∀ a b c, lt a b = false → lt b c = false → lt a c = false

def srt (xs : List α) : Prop := xs.Pairwise (fun a b => lt b a = false)
def eqv (a b : α) : Bool := !lt a b && !lt b a

variable {lt}
theorem SWO.asym (h : SWO lt) {a b : α} (hab : lt a b = true) : lt b a = false := by
  cases hb : lt b a
  · rfl
  · have := h.tr a b a hab hb
    rw [h.irr] at this; cases this

theorem eqv_self (h : SWO lt) (a : α) : eqv lt a a = true := by simp [eqv, h.irr]

theorem mem_of_filter (h : SWO lt) {ys zs : List α} (hf : ∀ z, ys.filter (eqv lt z) = zs.filter (eqv lt z)) {y : α} (hy : y ∈ ys) : y ∈ zs := by
  have : y ∈ ys.filter (eqv lt y) := List.mem_filter.2 ⟨hy, eqv_self h y⟩
  rw [hf] at this
  exact (List.mem_filter.1 this).1

/-- two sorted lists with the same classes, in the same order within each, are one -/
theorem srt_uniq (h : SWO lt) : ∀ (ys zs : List α), srt lt ys → srt lt zs → (∀ z, ys.filter (eqv lt z) = zs.filter (eqv lt z)) → ys = zs
  | [], zs, _, _, hf => by
    cases zs with
    | nil => rfl
    | cons z zs => exact absurd (mem_of_filter h (fun z => (hf z).symm) (List.mem_cons_self)) (by simp)
  | y :: ys, [], _, _, hf => absurd (mem_of_filter h hf (List.mem_cons_self)) (by simp)
  | y :: ys, z :: zs, hy, hz, hf => by
    have h1 : y ∈ z :: zs := mem_of_filter h hf List.mem_cons_self
    have h2 : z ∈ y :: ys := mem_of_filter h (fun z => (hf z).symm) List.mem_cons_self
    have l1 : lt y z = false := by
      rcases List.mem_cons.1 h1 with rfl | h1
      · exact h.irr _
      · exact (List.pairwise_cons.1 hz).1 _ h1
    have l2 : lt z y = false := by
      rcases List.mem_cons.1 h2 with rfl | h2
      · exact h.irr _
      · exact (List.pairwise_cons.1 hy).1 _ h2
    have e1 : eqv lt y z = true := by simp [eqv, l1, l2]
    have hyz : y = z := by
      have := hf y
      rw [List.filter_cons_of_pos (eqv_self h y), List.filter_cons_of_pos e1] at this
      exact (List.cons.inj this).1
    subst hyz
    congr 1
    refine srt_uniq h ys zs (List.pairwise_cons.1 hy).2 (List.pairwise_cons.1 hz).2 (fun z => ?_)
    have := hf z
    by_cases hp : eqv lt z y = true
    · rw [List.filter_cons_of_pos hp, List.filter_cons_of_pos hp] at this
      exact (List.cons.inj this).2
    · rw [List.filter_cons_of_neg hp, List.filter_cons_of_neg hp] at this
      exact this

variable (lt) in
/-- merging: from the second one only where its head is less -/
def mrg (a b : List α) : List α := List.merge a b (fun x y => !lt y x)

theorem mrg_nil (b : List α) : mrg lt [] b = b := by simp [mrg]
theorem mrg_nil' (a : List α) : mrg lt a [] = a := by simp [mrg]
theorem mrg_lt (x y : α) (a b : List α) (h : lt y x = true) : mrg lt (x :: a) (y :: b) = y :: mrg lt (x :: a) b := by
  simp [mrg, List.merge, h]
theorem mrg_ge (x y : α) (a b : List α) (h : lt y x = false) : mrg lt (x :: a) (y :: b) = x :: mrg lt a (y :: b) := by
  simp [mrg, List.merge, h]

theorem mem_mrg {a b : List α} {x : α} : x ∈ mrg lt a b ↔ x ∈ a ∨ x ∈ b := by
  unfold mrg; exact List.mem_merge

theorem length_mrg (a b : List α) : (mrg lt a b).length = a.length + b.length := by
  unfold mrg; simp

theorem srt_mrg (h : SWO lt) : ∀ (a b : List α), srt lt a → srt lt b → srt lt (mrg lt a b)
  | [], b, _, hb => by rw [mrg_nil]; exact hb
  | x :: a, [], ha, _ => by rw [mrg_nil']; exact ha
  | x :: a, y :: b, ha, hb => by
    have ⟨ha1, ha2⟩ := List.pairwise_cons.1 ha
    have ⟨hb1, hb2⟩ := List.pairwise_cons.1 hb
    cases hl : lt y x
    · rw [mrg_ge _ _ _ _ hl]
      refine List.pairwise_cons.2 ⟨fun z hz => ?_, srt_mrg h a (y :: b) ha2 hb⟩
      rcases mem_mrg.1 hz with hz | hz
      · exact ha1 z hz
      · rcases List.mem_cons.1 hz with rfl | hz
        · exact hl
        · exact h.inc _ _ _ (hb1 z hz) hl
    · rw [mrg_lt _ _ _ _ hl]
      refine List.pairwise_cons.2 ⟨fun z hz => ?_, srt_mrg h (x :: a) b ha hb2⟩
      rcases mem_mrg.1 hz with hz | hz
      · rcases List.mem_cons.1 hz with rfl | hz
        · exact h.asym hl
        · exact h.inc _ _ _ (ha1 z hz) (h.asym hl)
      · exact hb1 z hz
  termination_by a b => a.length + b.length

theorem filter_mrg (h : SWO lt) (z : α) : ∀ (a b : List α), srt lt a → srt lt b → (mrg lt a b).filter (eqv lt z) = a.filter (eqv lt z) ++ b.filter (eqv lt z)
  | [], b, _, hb => by rw [mrg_nil]; rfl
  | x :: a, [], ha, _ => by rw [mrg_nil']; simp
  | x :: a, y :: b, ha, hb => by
    have ⟨ha1, ha2⟩ := List.pairwise_cons.1 ha
    have ⟨hb1, hb2⟩ := List.pairwise_cons.1 hb
    cases hl : lt y x
    · rw [mrg_ge _ _ _ _ hl, List.filter_cons, List.filter_cons, filter_mrg h z a (y :: b) ha2 hb]
      split <;> simp
    · rw [mrg_lt _ _ _ _ hl, List.filter_cons, filter_mrg h z (x :: a) b ha hb2]
      by_cases hp : eqv lt z y = true
      · have hnone : (x :: a).filter (eqv lt z) = [] := by
          rw [List.filter_eq_nil_iff]
          intro u hu
          have hyu : lt y u = true := by
            rcases List.mem_cons.1 hu with rfl | hu
            · exact hl
            · cases hyu : lt y u
              · have := h.inc _ _ _ hyu (ha1 u hu)
                rw [hl] at this; cases this
              · rfl
          have hzy : lt z y = false := by simp [eqv] at hp; exact hp.1
          have hyz : lt y z = false := by simp [eqv] at hp; exact hp.2
          intro hzu
          have hzu' : lt z u = false := by simp [eqv] at hzu; exact hzu.1
          have := h.inc _ _ _ hyz hzu'
          rw [hyu] at this; cases this
        rw [if_pos hp, hnone, List.filter_cons_of_pos hp]; rfl
      · rw [if_neg hp, List.filter_cons_of_neg hp]
  termination_by a b => a.length + b.length

variable (lt) in
/-- an element put behind all that it is not less than -/
def ins (x : α) : List α → List α
  | [] => [x]
  | y :: l => if lt x y then x :: y :: l else y :: ins x l

variable (lt) in
/-- the stable sort: one by one -/
def isort (xs : List α) : List α := xs.foldl (fun l x => ins lt x l) []

theorem mem_ins {x y : α} : ∀ {l : List α}, y ∈ ins lt x l ↔ y = x ∨ y ∈ l
  | [] => by simp [ins]
  | u :: l => by
    unfold ins
    split
    · simp
    · simp only [List.mem_cons, mem_ins (l := l)]
      constructor <;> rintro (h | h | h) <;> simp [h]

theorem srt_ins (h : SWO lt) (x : α) : ∀ (l : List α), srt lt l → srt lt (ins lt x l)
  | [], _ => by simp [ins, srt]
  | y :: l, hl => by
    have ⟨h1, h2⟩ := List.pairwise_cons.1 hl
    unfold ins
    split
    · rename_i hx
      refine List.pairwise_cons.2 ⟨fun z hz => ?_, hl⟩
      rcases List.mem_cons.1 hz with rfl | hz
      · exact h.asym hx
      · exact h.inc _ _ _ (h1 z hz) (h.asym hx)
    · rename_i hx
      refine List.pairwise_cons.2 ⟨fun z hz => ?_, srt_ins h x l h2⟩
      rcases mem_ins.1 hz with rfl | hz
      · simpa using hx
      · exact h1 z hz

theorem filter_ins (h : SWO lt) (x z : α) : ∀ (l : List α), srt lt l → (ins lt x l).filter (eqv lt z) = l.filter (eqv lt z) ++ [x].filter (eqv lt z)
  | [], _ => by simp [ins]
  | y :: l, hl => by
    have ⟨h1, h2⟩ := List.pairwise_cons.1 hl
    unfold ins
    split
    · rename_i hx
      by_cases hp : eqv lt z x = true
      · have hnone : (y :: l).filter (eqv lt z) = [] := by
          rw [List.filter_eq_nil_iff]
          intro u hu hzu
          have hxu : lt x u = true := by
            rcases List.mem_cons.1 hu with rfl | hu
            · exact hx
            · cases hxu : lt x u
              · have := h.inc _ _ _ hxu (h1 u hu)
                rw [hx] at this; cases this
              · rfl
          have hxz : lt x z = false := by simp [eqv] at hp; exact hp.2
          have hzu' : lt z u = false := by simp [eqv] at hzu; exact hzu.1
          have := h.inc _ _ _ hxz hzu'
          rw [hxu] at this; cases this
        rw [List.filter_cons_of_pos hp, hnone]
        simp [hp]
      · rw [List.filter_cons_of_neg hp]
        simp [hp]
    · rw [List.filter_cons, filter_ins h x z l h2, List.filter_cons (x := y)]
      split <;> simp

theorem isort_go (h : SWO lt) : ∀ (xs acc : List α), srt lt acc → srt lt (xs.foldl (fun l x => ins lt x l) acc) ∧
    ∀ z, (xs.foldl (fun l x => ins lt x l) acc).filter (eqv lt z) = acc.filter (eqv lt z) ++ xs.filter (eqv lt z)
  | [], acc, ha => ⟨ha, fun z => by simp⟩
  | x :: xs, acc, ha => by
    obtain ⟨h1, h2⟩ := isort_go h xs (ins lt x acc) (srt_ins h x acc ha)
    refine ⟨h1, fun z => ?_⟩
    show ((xs.foldl (fun l x => ins lt x l) (ins lt x acc)).filter (eqv lt z)) = _
    rw [h2 z, filter_ins h x z acc ha, List.append_assoc, ← List.filter_append]
    rfl

theorem srt_isort (h : SWO lt) (xs : List α) : srt lt (isort lt xs) := (isort_go h xs [] List.Pairwise.nil).1
theorem filter_isort (h : SWO lt) (xs : List α) (z : α) : (isort lt xs).filter (eqv lt z) = xs.filter (eqv lt z) := by
  have := (isort_go h xs [] List.Pairwise.nil).2 z
  rw [List.filter_nil, List.nil_append] at this
  exact this

/-- whatever is sorted and has each class as it stood is the stable sort -/
theorem isort_of (h : SWO lt) {xs ys : List α} (hs : srt lt ys) (hf : ∀ z, ys.filter (eqv lt z) = xs.filter (eqv lt z)) : ys = isort lt xs :=
  srt_uniq h _ _ hs (srt_isort h xs) (fun z => by rw [hf, filter_isort h])

theorem isort_idem (h : SWO lt) {xs : List α} (hs : srt lt xs) : isort lt xs = xs := (isort_of h hs (fun _ => rfl)).symm

theorem mrg_isort (h : SWO lt) (a b : List α) : mrg lt (isort lt a) (isort lt b) = isort lt (a ++ b) :=
  isort_of h (srt_mrg h _ _ (srt_isort h a) (srt_isort h b)) (fun z => by
    rw [filter_mrg h z _ _ (srt_isort h a) (srt_isort h b), filter_isort h, filter_isort h, List.filter_append])

theorem ins_perm (x : α) : ∀ l : List α, (ins lt x l).Perm (x :: l)
  | [] => .refl _
  | y :: l => by
    unfold ins
    split
    · exact .refl _
    · exact ((ins_perm x l).cons y).trans (List.Perm.swap x y l)
theorem isort_perm_go : ∀ (xs acc : List α), (xs.foldl (fun l x => ins lt x l) acc).Perm (acc ++ xs)
  | [], acc => by simp
  | x :: xs, acc => by
    refine (isort_perm_go xs (ins lt x acc)).trans ?_
    refine ((ins_perm x acc).append_right xs).trans ?_
    exact (List.perm_middle (l₁ := acc)).symm
theorem isort_perm (xs : List α) : (isort lt xs).Perm xs := isort_perm_go (lt := lt) xs []
theorem length_isort (xs : List α) : (isort lt xs).length = xs.length := (isort_perm xs).length_eq
theorem isort_snoc (xs : List α) (x : α) : isort lt (xs ++ [x]) = ins lt x (isort lt xs) := by simp [isort]
end
end Go.Proofs.YtlianjnmfgakkaaDoor
