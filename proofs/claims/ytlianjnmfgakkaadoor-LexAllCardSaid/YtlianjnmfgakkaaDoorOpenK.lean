/- Arguments opened: rows of tokens. -/
import Derived.Test.YtlianjnmfgakkaaDoorOpenG
import Derived.Test.YtlianjnmfgakkaaDoorLexT
namespace Go.Proofs.YtlianjnmfgakkaaDoor
open Go.RowKit Go.ChangeShapes Go.WideShapes Go.ChangeAt Go.Deep

theorem fields4 {o : Option TypeDesc} {t u v : TypeId} (h : o.bind (fun d => match d with | .struct fs => some (fs.toList.map fun f => (f.type, f.offset)) | _ => none) = some [(t, 0), (t, 1), (u, 2), (v, 3)]) :
    ∃ fs, o = some (.struct fs) ∧ ∃ f0 f1 f2 f3, fs[0]? = some f0 ∧ fs[1]? = some f1 ∧ fs[2]? = some f2 ∧ fs[3]? = some f3 ∧ (f0.type = t ∧ f1.type = t ∧ f2.type = u ∧ f3.type = v ∧ f0.offset = 0 ∧ f1.offset = 1 ∧ f2.offset = 2 ∧ f3.offset = 3) := by
  cases o with
  | none => simp at h
  | some d =>
    cases d with
    | struct fs =>
      simp only [Option.bind_some, Option.some.injEq] at h
      obtain ⟨l⟩ := fs
      have hl : l.length = 4 := by simpa using congrArg List.length h
      match l, hl, h with
      | [f0, f1, f2, f3], _, h =>
        simp at h
        exact ⟨_, rfl, f0, f1, f2, f3, rfl, rfl, rfl, rfl, h.1.1, h.2.1.1, h.2.2.1.1, h.2.2.2.1, h.1.2, h.2.1.2, h.2.2.1.2, h.2.2.2.2⟩
    | _ => simp at h
section
variable {H : Type} {enc : TypeId × Value → H} {W : World} {base : Nat} {v : Value} {d : DataW H} {ps : List MemPlace}
set_option maxRecDepth 100000 in
theorem open_tokRow0 {fuel : Nat} {c0 : Value} {x : DataW H × List MemPlace} (hf : DataW.trod enc Tryd.prog W 0 (fun _ => true) true fuel 34 [c0] = some x) :
    ∃ A n c xs, c0 = .slice A n c ∧ n = xs.length ∧ (n ≤ c ∧ c ≤ maxLen) ∧ Rd tokE W.heap.size W A xs ∧ ∀ x ∈ xs, x.text.size ≤ maxLen := by
  have hC : Tryd.prog.cellsOf 29 = 4 := by kernel_rfl
  have hq : (Tryd.prog.underlying 29).bind (fun d => match d with | .struct fs => some (fs.toList.map fun f => (f.type, f.offset)) | _ => none) = some [(3, 0), (3, 1), (9, 2), (4, 3)] := by kernel_rfl
  obtain ⟨fs, hfs, f0, f1, f2, f3, hf0, hf1, hf2, hf3, t0, t1, t2, t3, o0, o1, o2, o3⟩ := fields4 hq
  have hi1 : Tryd.prog.cellsOf 3 = 1 := by kernel_rfl
  have hi2 : Tryd.prog.cellsOf 9 = 1 := by kernel_rfl
  have hi3 : Tryd.prog.cellsOf 4 = 1 := by kernel_rfl
  rcases open_slice (show Tryd.prog.underlying 34 = some (.slice 29) by kernel_rfl) hf with ⟨hcs, _⟩ | ⟨a, l, k, m, fu, D, Pl, hcs, _, hl, hm, hmm, _, hi⟩
  · simp at hcs
    subst hcs
    exact ⟨none, 0, 0, [], rfl, rfl, ⟨Nat.le_refl _, Nat.zero_le _⟩, .inl rfl, by simp⟩
  · simp at hcs
    subst hcs
    simp at hmm
    subst hmm
    obtain ⟨xs, hxl, hxs⟩ := list_of (fun i (x : Tok) => (W.cell? (a.add (i * 4)) = some (.int .i64 x.kind)) ∧ (W.cell? (a.add (i * 4 + 1)) = some (.int .i64 x.pl)) ∧ (W.cell? (a.add (i * 4 + 2)) = some (.string x.text) ∧ x.text.size ≤ maxLen) ∧ (W.cell? (a.add (i * 4 + 3)) = some (.bool x.glued))) l (fun i hin => by
      obtain ⟨cs', h1, h2⟩ := hi i (by omega)
      rw [hC] at h1
      obtain ⟨ys, n', _, _, hlen, hyl, hfld⟩ := DataW.trod_struct hfs h2
      obtain ⟨_, hcl, hat⟩ := World.cells?_some h1
      match cs', hcl with
      | [u0, u1, u2, u3], _ =>
        have g0 := hfld 0 f0 hf0
        have g1 := hfld 1 f1 hf1
        have g2 := hfld 2 f2 hf2
        have g3 := hfld 3 f3 hf3
        rw [t0, o0, hi1] at g0
        rw [t1, o1, hi1] at g1
        rw [t2, o2, hi2] at g2
        rw [t3, o3, hi3] at g3
        have hs0 : ys[0]? = some (ys[0]'(by rw [hyl]; exact (Array.getElem?_eq_some_iff.1 hf0).1)) := List.getElem?_eq_getElem _
        have hs1 : ys[1]? = some (ys[1]'(by rw [hyl]; exact (Array.getElem?_eq_some_iff.1 hf1).1)) := List.getElem?_eq_getElem _
        have hs2 : ys[2]? = some (ys[2]'(by rw [hyl]; exact (Array.getElem?_eq_some_iff.1 hf2).1)) := List.getElem?_eq_getElem _
        have hs3 : ys[3]? = some (ys[3]'(by rw [hyl]; exact (Array.getElem?_eq_some_iff.1 hf3).1)) := List.getElem?_eq_getElem _
        rw [hs0] at g0
        rw [hs1] at g1
        rw [hs2] at g2
        rw [hs3] at g3
        obtain ⟨z0, e0, _, w0⟩ := DataW.trod_int (show Tryd.prog.underlying 3 = some (.int .i64) by kernel_rfl) g0
        obtain ⟨z1, e1, _, w1⟩ := DataW.trod_int (show Tryd.prog.underlying 3 = some (.int .i64) by kernel_rfl) g1
        obtain ⟨z2, e2, _, w2⟩ := DataW.trod_string (show Tryd.prog.underlying 9 = some .string by kernel_rfl) g2
        obtain ⟨z3, e3, _⟩ := DataW.trod_bool (show Tryd.prog.underlying 4 = some .bool by kernel_rfl) g3
        simp at e0 e1 e2 e3
        subst e0 e1 e2 e3
        refine ⟨⟨z0, z1, z2, z3⟩, ?_, ?_, ⟨?_, w2⟩, ?_⟩
        · have := hat 0 (by omega)
          simpa [Addr.add] using this
        · have := hat 1 (by omega)
          rw [Go.Deep.add_add] at this
          simpa using this
        · have := hat 2 (by omega)
          rw [Go.Deep.add_add] at this
          simpa using this
        · have := hat 3 (by omega)
          rw [Go.Deep.add_add] at this
          simpa using this)
    refine ⟨some a, l, _, xs, rfl, hxl.symm, ⟨hl, hm⟩, rd_of_cells (n := l) _ hxl fun i y hy j u hu => ?_, fun y hy => ?_⟩
    · obtain ⟨h1, h2, h3, h4⟩ := hxs i y hy
      match j, hu with
      | 0, hu => simp [tokE, tokCells] at hu; subst hu; simpa [tokE] using h1
      | 1, hu => simp [tokE, tokCells] at hu; subst hu; simpa [tokE] using h2
      | 2, hu => simp [tokE, tokCells] at hu; subst hu; simpa [tokE] using h3.1
      | 3, hu => simp [tokE, tokCells] at hu; subst hu; simpa [tokE] using h4
    · obtain ⟨i, hi'⟩ := List.getElem?_of_mem hy
      exact (hxs i y hi').2.2.1.2
set_option maxRecDepth 100000 in
theorem open_tokRow (hval : Value.okWide Tryd.prog W .any base 34 v) (h : DataW.Trod enc Tryd.prog W 0 (fun _ => true) true 34 v d ps) :
    ∃ A n c xs, v = .slice A n c ∧ n = xs.length ∧ (n ≤ c ∧ c ≤ maxLen) ∧ Rd tokE W.heap.size W A xs ∧ ∀ x ∈ xs, x.text.size ≤ maxLen := by
  obtain ⟨A, n, c, rfl⟩ := okWide_slice (show Tryd.prog.underlying 34 = some (.slice 29) by kernel_rfl) hval
  obtain ⟨fuel, hf⟩ := h
  obtain ⟨A', n', c', xs, e, r⟩ := open_tokRow0 hf
  exact ⟨A', n', c', xs, e, r⟩
end
end Go.Proofs.YtlianjnmfgakkaaDoor
