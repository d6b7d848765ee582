/- Arguments opened: rows of pairs, of integers and of texts, as lists. -/
import Derived.Test.YtecfceabioajkaaBase
import Derived.Test.YtecfceabioajkaaChecked
import Derived.ProofKit
import Derived.OpenShut
import Derived.ShutString
import Derived.ChangeOld
import Derived.Deep.Slices
import Derived.Deep.Fields
import Derived.SliceStrings
import Derived.Laws.World
namespace Go.Proofs.Ytecfceabioajkaa
open Go.RowKit Go.ChangeShapes Go.WideShapes Go.ChangeAt Go.Deep
theorem ownKnob_ : ownKnob Try.prog.godebug = none := by kernel_rfl
theorem laidOut_ : laidOutB Try.prog = true := by kernel_rfl

theorem rd_of_cells {α : Type} {E : El α} {w : World} {a : Addr} {n : Nat} (xs : List α) (hl : xs.length = n) (h : ∀ i x, xs[i]? = some x → ∀ j u, (E.cs x)[j]? = some u → w.cell? (a.add (i * E.sz + j)) = some u) : Rd E w.heap.size w (some a) xs := by
  cases xs with
  | nil => exact .inl rfl
  | cons x xs =>
    obtain ⟨u, hu⟩ : ∃ u, (E.cs x)[0]? = some u := ⟨_, List.getElem?_eq_getElem (by rw [E.len]; exact E.pos)⟩
    have h0 := h 0 x rfl 0 u hu
    have hlt := World.block_lt_of_cell? w _ h0
    have hsp := World.cell?_spot h0
    obtain ⟨b, off, sp⟩ := a
    obtain rfl : sp = none := by simpa [Addr.add] using hsp
    refine .inr ⟨b, off, rfl, by simpa [Addr.add] using hlt, fun i y hy j u hu => ?_⟩
    have := h i y hy j u hu
    rw [Addr.add_lit] at this
    rw [Nat.add_assoc]
    exact this
theorem list_of {α : Type} (p : Nat → α → Prop) : ∀ n : Nat, (∀ i, i < n → ∃ x, p i x) → ∃ xs : List α, xs.length = n ∧ ∀ i x, xs[i]? = some x → p i x
  | 0, _ => ⟨[], rfl, fun i x h => by simp at h⟩
  | n + 1, h => by
    obtain ⟨xs, hl, hx⟩ := list_of p n (fun i hi => h i (by omega))
    obtain ⟨x, hxn⟩ := h n (by omega)
    refine ⟨xs ++ [x], by simp [hl], fun i y hy => ?_⟩
    by_cases hi : i < n
    · exact hx i y (by rwa [List.getElem?_append_left (by omega)] at hy)
    · have := (List.getElem?_eq_some_iff.1 hy).1
      simp at this
      obtain rfl : i = n := by omega
      rw [List.getElem?_append_right (by omega)] at hy
      simp [hl] at hy
      exact hy ▸ hxn

theorem pair_fields {o : Option TypeDesc} {t : TypeId} (h : o.bind (fun d => match d with | .struct fs => some (fs.toList.map fun f => (f.type, f.offset)) | _ => none) = some [(t, 0), (t, 1)]) :
    ∃ fs, o = some (.struct fs) ∧ ∃ f0 f1, fs[0]? = some f0 ∧ fs[1]? = some f1 ∧ (f0.type = t ∧ f1.type = t ∧ f0.offset = 0 ∧ f1.offset = 1) := by
  cases o with
  | none => simp at h
  | some d =>
    cases d with
    | struct fs =>
      simp only [Option.bind_some, Option.some.injEq] at h
      obtain ⟨l⟩ := fs
      have hl : l.length = 2 := by simpa using congrArg List.length h
      match l, hl, h with
      | [f0, f1], _, h =>
        simp at h
        exact ⟨_, rfl, f0, f1, rfl, rfl, h.1.1, h.2.1, h.1.2, h.2.2⟩
    | _ => simp at h
section
variable {H : Type} {enc : TypeId × Value → H} {W : World} {base : Nat} {v : Value} {d : DataW H} {ps : List MemPlace}
theorem open_intRow (hval : Value.okWide Try.prog W .any base 37 v) (h : DataW.Trod enc Try.prog W 0 (fun _ => true) true 37 v d ps) :
    ∃ A n c xs, v = .slice A n c ∧ n = xs.length ∧ n ≤ c ∧ Rd intE W.heap.size W A xs ∧ ∀ x ∈ xs, (Lit.int .i64 x).wf = true := by
  obtain ⟨A, n, c, rfl⟩ := okWide_slice (show Try.prog.underlying 37 = some (.slice 3) by kernel_rfl) hval
  obtain ⟨fuel, hf⟩ := h
  rcases open_ints (show Try.prog.underlying 37 = some (.slice 3) by kernel_rfl) (show Try.prog.underlying 3 = some (.int .i64) by kernel_rfl) (by kernel_rfl) hf with ⟨hcs, _⟩ | ⟨x, l, k, zs, hcs, _, hl, hm, hz, _, hcell, hwz⟩
  · simp [Value.cells] at hcs
    obtain ⟨rfl, rfl, rfl⟩ := hcs
    exact ⟨none, 0, 0, [], rfl, rfl, Nat.le_refl _, .inl rfl, by simp⟩
  · simp [Value.cells] at hcs
    obtain ⟨rfl, rfl, rfl⟩ := hcs
    simp at hz
    refine ⟨some x, n, c, zs.take n, rfl, by rw [List.length_take]; omega, hl, rd_of_cells (n := n) _ (by rw [List.length_take]; omega) fun i y hy j u hu => ?_, fun y hy => hwz y (List.mem_of_mem_take hy)⟩
    rw [List.getElem?_take] at hy
    split at hy
    · obtain ⟨hi, rfl⟩ := List.getElem?_eq_some_iff.1 hy
      match j, hu with
      | 0, hu =>
        simp [intE] at hu
        have := hcell i hi
        rw [List.getD, List.getElem?_eq_getElem hi, Option.getD_some] at this
        simpa [intE, ← hu] using this
    · cases hy
theorem open_strRow (hval : Value.okWide Try.prog W .any base 45 v) (h : DataW.Trod enc Try.prog W 0 (fun _ => true) true 45 v d ps) :
    ∃ A n c xs, v = .slice A n c ∧ n = xs.length ∧ n ≤ c ∧ Rd strE W.heap.size W A xs ∧ ∀ x ∈ xs, x.size ≤ maxLen := by
  obtain ⟨A, n, c, rfl⟩ := okWide_slice (show Try.prog.underlying 45 = some (.slice 9) by kernel_rfl) hval
  obtain ⟨fuel, hf⟩ := h
  rcases open_strings (show Try.prog.underlying 45 = some (.slice 9) by kernel_rfl) (show Try.prog.underlying 9 = some .string by kernel_rfl) (by kernel_rfl) hf with ⟨hcs, _⟩ | ⟨x, l, k, zs, hcs, _, hl, hm, hz, _, hcell, hwz⟩
  · simp [Value.cells] at hcs
    obtain ⟨rfl, rfl, rfl⟩ := hcs
    exact ⟨none, 0, 0, [], rfl, rfl, Nat.le_refl _, .inl rfl, by simp⟩
  · simp [Value.cells] at hcs
    obtain ⟨rfl, rfl, rfl⟩ := hcs
    simp at hz
    refine ⟨some x, n, c, zs.take n, rfl, by rw [List.length_take]; omega, hl, rd_of_cells (n := n) _ (by rw [List.length_take]; omega) fun i y hy j u hu => ?_, fun y hy => hwz y (List.mem_of_mem_take hy)⟩
    rw [List.getElem?_take] at hy
    split at hy
    · obtain ⟨hi, rfl⟩ := List.getElem?_eq_some_iff.1 hy
      match j, hu with
      | 0, hu =>
        simp [strE] at hu
        have := hcell i hi
        rw [List.getD, List.getElem?_eq_getElem hi, Option.getD_some] at this
        simpa [strE, ← hu] using this
    · cases hy
theorem open_pairRow (hval : Value.okWide Try.prog W .any base 22 v) (h : DataW.Trod enc Try.prog W 0 (fun _ => true) true 22 v d ps) :
    ∃ A n c xs, v = .slice A n c ∧ n = xs.length ∧ n ≤ c ∧ Rd pairE W.heap.size W A xs ∧ ∀ x ∈ xs, (Lit.int .i64 x.1).wf = true ∧ (Lit.int .i64 x.2).wf = true := by
  obtain ⟨A, n, c, rfl⟩ := okWide_slice (show Try.prog.underlying 22 = some (.slice 26) by kernel_rfl) hval
  obtain ⟨fuel, hf⟩ := h
  have hC : Try.prog.cellsOf 26 = 2 := by kernel_rfl
  have hq : (Try.prog.underlying 26).bind (fun d => match d with | .struct fs => some (fs.toList.map fun f => (f.type, f.offset)) | _ => none) = some [(3, 0), (3, 1)] := by kernel_rfl
  obtain ⟨fs, hfs, f0, f1, hf0, hf1, hall⟩ := pair_fields hq
  obtain ⟨t0, t1, o0, o1⟩ := hall
  have hi1 : Try.prog.cellsOf 3 = 1 := by kernel_rfl
  rcases open_slice (show Try.prog.underlying 22 = some (.slice 26) by kernel_rfl) hf with ⟨hcs, _⟩ | ⟨a, l, k, m, fu, D, Pl, hcs, _, hl, hm, hmm, _, hi⟩
  · simp [Value.cells] at hcs
    obtain ⟨rfl, rfl, rfl⟩ := hcs
    exact ⟨none, 0, 0, [], rfl, rfl, Nat.le_refl _, .inl rfl, by simp⟩
  · simp [Value.cells] at hcs
    obtain ⟨rfl, rfl, rfl⟩ := hcs
    simp at hmm
    subst hmm
    obtain ⟨xs, hxl, hxs⟩ := list_of (fun i (x : Int × Int) => ((W.cell? (a.add (i * 2)) = some (.int .i64 x.1) ∧ (Lit.int .i64 x.1).wf = true) ∧ (W.cell? (a.add (i * 2 + 1)) = some (.int .i64 x.2) ∧ (Lit.int .i64 x.2).wf = true))) n (fun i hin => by
      obtain ⟨cs', h1, h2⟩ := hi i (by omega)
      rw [hC] at h1
      obtain ⟨ys, n', _, _, hlen, hyl, hfld⟩ := DataW.trod_struct hfs h2
      obtain ⟨_, hcl, hat⟩ := World.cells?_some h1
      match cs', hcl with
      | [u0, u1], _ =>
        have g0 := hfld 0 f0 hf0
        have g1 := hfld 1 f1 hf1
        rw [t0, o0, hi1] at g0
        rw [t1, o1, hi1] at g1
        have hs0 : ys[0]? = some (ys[0]'(by rw [hyl]; exact (Array.getElem?_eq_some_iff.1 hf0).1)) := List.getElem?_eq_getElem _
        have hs1 : ys[1]? = some (ys[1]'(by rw [hyl]; exact (Array.getElem?_eq_some_iff.1 hf1).1)) := List.getElem?_eq_getElem _
        rw [hs0] at g0
        rw [hs1] at g1
        obtain ⟨z0, e0, _, w0⟩ := DataW.trod_int (show Try.prog.underlying 3 = some (.int .i64) by kernel_rfl) g0
        obtain ⟨z1, e1, _, w1⟩ := DataW.trod_int (show Try.prog.underlying 3 = some (.int .i64) by kernel_rfl) g1
        simp at e0 e1
        subst e0 e1
        refine ⟨(z0, z1), ⟨?_, w0⟩, ?_, w1⟩
        · have := hat 0 (by omega)
          simpa [Addr.add] using this
        · have := hat 1 (by omega)
          rw [Go.Deep.add_add] at this
          simpa using this)
    refine ⟨some a, n, _, xs, rfl, hxl.symm, hl, rd_of_cells (n := n) _ hxl fun i y hy j u hu => ?_, fun y hy => ?_⟩
    · obtain ⟨h1, h2⟩ := hxs i y hy
      match j, hu with
      | 0, hu => simp [pairE] at hu; subst hu; simpa [pairE] using h1.1
      | 1, hu => simp [pairE] at hu; subst hu; simpa [pairE] using h2.1
    · obtain ⟨i, hi'⟩ := List.getElem?_of_mem hy
      exact ⟨(hxs i y hi').1.2, (hxs i y hi').2.2⟩
end
end Go.Proofs.Ytecfceabioajkaa
