/- Plainly: the steps of topo.taken. -/
import Derived.Test.YtepgpiolhiidiaaGraT
import Derived.Test.YtepgpiolhiidiaaTopP
namespace Go.Proofs.Ytepgpiolhiidiaa

theorem strict_nodup {xs : List (Int × Int × Int)} (h : Strict xs) : xs.Nodup := by
  refine List.Pairwise.imp (fun {a b} hab he => ?_) h
  subst he
  rw [SWO.irr swo_E a] at hab
  cases hab
theorem cntB_all {n : Nat} {a : List (Int × Int × Int)} (h : rightG n a = true) : cntB a n = a.length := by
  obtain ⟨-, -, -, h4, -⟩ := (rightG_iff _ a).1 h
  unfold cntB
  rw [List.countP_eq_length]
  intro x hx
  have := (rightE_iff _ x).1 (h4 x hx)
  simp
  omega
theorem starts_get {a : List (Int × Int × Int)} {N v : Nat} (h : v < N) : (starts a N)[v]? = some (cntB a v : Int) := by rw [starts_rowF, rowF_get h]
theorem out_between {a : List (Int × Int × Int)} (h : Strict a) (v : Nat) : (a.drop (cntB a v)).take (cntB a (v + 1) - cntB a v) = a.filter fun x => decide (x.1 = (v : Int)) := by
  have := out_part h (v : Int)
  rw [show cntI a (v : Int) = cntB a v from rfl, show cntI a ((v : Int) + 1) = cntB a (v + 1) from rfl] at this
  exact this
theorem cntB_mono (a : List (Int × Int × Int)) (v : Nat) : cntB a v ≤ cntB a (v + 1) := cntI_mono a (show (v : Int) ≤ ((v + 1 : Nat) : Int) by omega)
theorem joins_of {n : Nat} {xs : List (Int × Int × Int)} (h : rightG n xs = true) : Joins n xs := by
  obtain ⟨-, -, -, h4, -⟩ := (rightG_iff _ xs).1 h
  intro e he
  have := (rightE_iff _ e).1 (h4 e he)
  omega
section
variable {n : Nat} {xs : List (Int × Int × Int)}
theorem inn_snoc {k : Nat} {e : Int × Int × Int} (h : xs[k]? = some e) (u : Int) : cntQ (xs.take (k + 1)) [] [] u = cntQ (xs.take k) [] [] u + if u = e.2.1 then 1 else 0 := by
  rw [show xs.take (k + 1) = xs.take k ++ [e] by rw [List.take_add_one, h]; rfl]
  unfold cntQ
  rw [List.countP_append, List.countP_singleton]
  congr 1
  by_cases hu : u = e.2.1
  · simp [hu]
  · simp [hu, Ne.symm hu]
theorem inn_nil (u : Int) : cntQ (xs.take 0) [] [] u = 0 := rfl
theorem cntQ_le (T : List Int) (q : List (Int × Int × Int)) (u : Int) : cntQ xs T q u ≤ xs.length := List.countP_le_length
/-- the nodes below k to which nothing leads -/
def below0 (xs : List (Int × Int × Int)) (k : Nat) (v : Int) : Bool := (decide (0 ≤ v) && decide (v < k)) && decide (cntQ xs [] [] v = 0)
theorem below0_zero : HInv [] (below0 xs 0) := ⟨heap_nil, fun v => by
  have : below0 xs 0 v = false := by
    unfold below0
    by_cases h : 0 ≤ v
    · have : ¬ v < ((0 : Nat) : Int) := by omega
      rw [decide_eq_false this]; simp
    · simp [h]
  rw [this]; rfl⟩
theorem below0_put {k : Nat} {H H' : List Int} (h : HInv H (below0 xs k)) (h0 : cntQ xs [] [] (k : Int) = 0) (h1 : Heap H') (h2 : Same H' (H ++ [(k : Int)])) : HInv H' (below0 xs (k + 1)) := by
  refine hinv_congr (hinv_put h (v := (k : Int)) ?_ h1 h2) fun v => ?_
  · unfold below0
    simp
  · unfold below0
    by_cases hv : v = (k : Int)
    · subst hv
      simp [h0]
      omega
    · by_cases hlt : v < (k : Int)
      · have : v < (k : Int) + 1 := by omega
        simp [hlt, this, hv]
      · have : ¬ v < (k : Int) + 1 := by omega
        simp [hlt, this, hv]
theorem below0_skip {k : Nat} {H : List Int} (h : HInv H (below0 xs k)) (h0 : cntQ xs [] [] (k : Int) ≠ 0) : HInv H (below0 xs (k + 1)) := by
  refine hinv_congr h fun v => ?_
  unfold below0
  by_cases hv : v = (k : Int)
  · subst hv
    simp [h0]
  · by_cases hlt : v < (k : Int)
    · have : v < (k : Int) + 1 := by omega
      simp [hlt, this]
    · have : ¬ v < (k : Int) + 1 := by omega
      simp [hlt, this]
theorem below0_end {H : List Int} (h : HInv H (below0 xs n)) : HInv H (freeN n xs []) := by
  refine hinv_congr h fun v => ?_
  unfold below0 freeN
  congr 1
  rw [Bool.eq_iff_iff, freeV_cnt]
  simp
/-- free, while the edges q of the node x, that is taken, are done -/
def freeQ (n : Nat) (xs : List (Int × Int × Int)) (T : List Int) (q : List (Int × Int × Int)) (v : Int) : Bool := (decide (0 ≤ v) && decide (v < n)) && (!decide (v ∈ T) && decide (cntQ xs (T.dropLast) q v = 0))
theorem freeQ_start {T : List Int} {x : Int} {H : List Int} (h : HInv H fun u => freeN n xs T u && !decide (u = x)) : HInv H (freeQ n xs (T ++ [x]) []) := by
  refine hinv_congr h fun v => ?_
  unfold freeN freeQ
  rw [List.dropLast_concat, Bool.and_assoc]
  congr 1
  have h1 : freeV xs T v = (!decide (v ∈ T) && decide (cntQ xs T [] v = 0)) := by
    rw [Bool.eq_iff_iff, freeV_cnt]
    simp
  rw [h1]
  by_cases hv : v = x
  · subst hv; simp
  · simp [hv]
/-- what is taken is closed: with a node, all from which an edge leads to it -/
def ClosedT (xs : List (Int × Int × Int)) (T : List Int) : Prop := ∀ e ∈ xs, e.2.1 ∈ T → e.1 ∈ T
theorem closed_it (k : Nat) : ClosedT xs (itN n xs k) := by
  intro e he ht
  obtain ⟨p, q, h1, h2⟩ := it_before k _ ht
  rw [h1]
  exact List.mem_append.2 (.inl (h2 e he rfl))
theorem freeQ_put {T : List Int} {x : Int} {q : List (Int × Int × Int)} {e : Int × Int × Int} {H H' : List Int} (hj : Joins n xs) (hnd : xs.Nodup) (hc : ClosedT xs T) (h0 : e ∈ xs) (hx : e.1 = x) (hT : x ∉ T) (hq : e ∉ q)
    (h : HInv H (freeQ n xs (T ++ [x]) q)) (hz : cntQ xs T (q ++ [e]) e.2.1 = 0) (h1 : Heap H') (h2 : Same H' (H ++ [e.2.1])) : HInv H' (freeQ n xs (T ++ [x]) (q ++ [e])) := by
  have hs := cntQ_step hnd h0 (by rw [hx]; exact hT) hq
  obtain ⟨⟨-, j1, j2⟩, j3⟩ := hj e h0
  refine hinv_congr (hinv_put h (v := e.2.1) ?_ h1 h2) fun v => ?_
  · unfold freeQ
    rw [List.dropLast_concat, hs e.2.1, if_pos rfl]
    simp
  · unfold freeQ
    rw [List.dropLast_concat]
    by_cases hv : v = e.2.1
    · subst hv
      have d1 : e.2.1 ∉ T := fun hc2 => hT (hx ▸ hc e h0 hc2)
      have d2 : e.2.1 ≠ x := fun hc2 => j3 (hx.trans hc2.symm)
      simp [hz, j1, j2, d1, d2]
    · rw [hs v, if_neg hv]
      simp [hv]
theorem freeQ_skip {T : List Int} {x : Int} {q : List (Int × Int × Int)} {e : Int × Int × Int} {H : List Int} (hnd : xs.Nodup) (h0 : e ∈ xs) (hx : e.1 = x) (hT : x ∉ T) (hq : e ∉ q)
    (h : HInv H (freeQ n xs (T ++ [x]) q)) (hz : cntQ xs T (q ++ [e]) e.2.1 ≠ 0) : HInv H (freeQ n xs (T ++ [x]) (q ++ [e])) := by
  have hs := cntQ_step hnd h0 (by rw [hx]; exact hT) hq
  refine hinv_congr h fun v => ?_
  unfold freeQ
  rw [List.dropLast_concat, hs v]
  by_cases hv : v = e.2.1
  · subst hv
    simp [hz]
  · rw [if_neg hv]
    rfl
theorem freeQ_end {T : List Int} {x : Int} {H : List Int} (h : HInv H (freeQ n xs (T ++ [x]) (xs.filter fun e => decide (e.1 = x)))) : HInv H (freeN n xs (T ++ [x])) := by
  refine hinv_congr h fun v => ?_
  unfold freeQ freeN
  rw [List.dropLast_concat]
  congr 1
  have hq : ∀ e, e ∈ (xs.filter fun e => decide (e.1 = x)) ↔ e ∈ xs ∧ e.1 = x := fun e => by rw [List.mem_filter]; simp
  rw [cntQ_next hq, Bool.eq_iff_iff, freeV_cnt]
  simp
theorem hinv_len {H : List Int} {P : Int → Bool} (h : HInv H P) (hP : ∀ v, P v = true → 0 ≤ v ∧ v < n) : H.length ≤ n := by
  have h1 : H.Nodup := by
    rw [List.nodup_iff_count]
    intro v
    rw [h.2 v]
    split <;> omega
  have := nodup_len h1 (m := nodes n) (fun v hv => mem_nodes.2 (hP v ((hinv_mem h).1 hv)))
  rw [nodes_len] at this
  exact this
theorem freeN_rng {T : List Int} {v : Int} (h : freeN n xs T v = true) : 0 ≤ v ∧ v < n := (freeN_iff.1 h).1
theorem freeQ_rng {T : List Int} {q : List (Int × Int × Int)} {v : Int} (h : freeQ n xs T q v = true) : 0 ≤ v ∧ v < n := by
  unfold freeQ at h
  rw [Bool.and_eq_true, Bool.and_eq_true, decide_eq_true_eq, decide_eq_true_eq] at h
  exact h.1
theorem below0_rng {k : Nat} {v : Int} (h : below0 xs k v = true) : 0 ≤ v ∧ v < k := by
  unfold below0 at h
  rw [Bool.and_eq_true, Bool.and_eq_true, decide_eq_true_eq, decide_eq_true_eq] at h
  exact h.1
end
end Go.Proofs.Ytepgpiolhiidiaa
