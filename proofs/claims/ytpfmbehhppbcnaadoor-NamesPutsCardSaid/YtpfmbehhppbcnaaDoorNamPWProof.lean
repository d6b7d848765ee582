/- NamesPutsCardSaid: what becomes of a table, name by name, and how it moves to another one; for every two tables, and row of texts. No condition beside the card's own: the library's tables hold what their texts lay. -/
import Derived.Test.YtpfmbehhppbcnaaDoorRows
import Derived.Test.YtpfmbehhppbcnaaDoorCards
import Derived.Test.YtpfmbehhppbcnaaDoorLaid10
import Derived.Test.YtpfmbehhppbcnaaDoorOpenH
import Derived.Test.YtpfmbehhppbcnaaDoorNamPW
import Derived.SevenTiedAt
namespace Go.Proofs.YtpfmbehhppbcnaaDoor
open Go Go.RowKit Go.ChangeShapes Go.WideShapes Go.ChangeAt
theorem namesPuts_walk (A1 : Option Addr) (n1 c1 : Nat) (xs : List ByteArray) (A2 : Option Addr) (n2 c2 : Nat) (ys : List ByteArray) (A3 : Option Addr) (n3 c3 : Nat) (zs : List ByteArray) (w : World)
    (hn1 : n1 = xs.length) (hc1 : n1 ≤ c1 ∧ c1 ≤ maxLen) (h1 : Rd strE w.heap.size w A1 xs) (hf1 : ∀ x ∈ xs, x.size ≤ maxLen) (hn2 : n2 = ys.length) (hc2 : n2 ≤ c2 ∧ c2 ≤ maxLen) (h2 : Rd strE w.heap.size w A2 ys) (hf2 : ∀ x ∈ ys, x.size ≤ maxLen)
    (hn3 : n3 = zs.length) (hc3 : n3 ≤ c3 ∧ c3 ≤ maxLen) (h3 : Rd strE w.heap.size w A3 zs) (hf3 : ∀ x ∈ zs, x.size ≤ maxLen) (hL : LaidU w) :
    Calls Tryd.prog 6 #[.agg #[.slice A1 n1 c1], .agg #[.slice A2 n2 c2], .slice A3 n3 c3] w fun e w' => e = .returned (.bool true) ∧ Below w.heap.size w w' :=
  namesPuts_any A1 A2 A3 n1 c1 n2 c2 n3 c3 xs ys zs w hn1 hc1.1 h1 hf1 hn2 hc2.1 h2 hf2 hn3 (Nat.le_trans hc3.1 hc3.2) h3 hf3 hL
set_option maxRecDepth 100000 in
theorem lifted_namesPuts (os : Os) (started : os.Started) (H : Type) (enc : TypeId × Value → H) :
    ReturnsInHanded {} Tryd.checked os 6 .any (fun w args => (Rows.namesPutsSpec.pre enc Tryd.prog Tryd.f6 [] false w args ∧ laidMetH Tryd.prog laidL w) ∧ sizedMet enc Tryd.prog Tryd.f6 (OpenSpec.ofChange Rows.namesPutsSpec) false w args) (Rows.namesPutsSpec.post enc Tryd.prog Tryd.f6 false true false false) := by
  refine returnsInHanded_of_change_and (C := Tryd.checked) (X := fun w _ => laidMetH Tryd.prog laidL w) (fun _ _ _ hh h => h.of_heap hh) ownKnob_ started (by kernel_rfl) Tryd.func6
    (ChangeSpec.witness_shaped (enc := enc) (C := Tryd.checked) (os := os) (X := fun w _ => laidMetH Tryd.prog laidL w) false (World.laidAll Tryd.prog os laidL) #[.agg #[.slice none 0 0], .agg #[.slice none 0 0], .slice none 0 0] 8 (World.laidAll_os _ _ _) (World.shaped_of_ZipB (by kernel_rfl) (by kernel_rfl)) (by kernel_rfl) (by kernel_rfl) (by kernel_rfl) (door_met os _)) ?_
  intro W base args ds gs before hval0 hW _ _ hL _
  have hval : ∀ (j : Nat) t v, Tryd.f6.params[j]? = some t → args[j]? = some v → Value.okWide Tryd.prog W .any base t v := hval0
  have hW' := hW
  obtain ⟨p, q, hA0, hV, rfl, hfz, hnd⟩ := hW
  have hA : DataW.TrodAll enc Tryd.prog W 0 (fun _ => true) true Tryd.f6.params.toList args.toList ds p := hA0
  rw [Tryd.params6] at hA hval
  obtain ⟨v0, vs0, d0, ds0, p0, q0, hargs, rfl, rfl, h0, r0⟩ := trodAll_cons hA
  obtain ⟨v1, vs1, d1, ds1, p1, q1, rfl, rfl, rfl, h1, r1⟩ := trodAll_cons r0
  obtain ⟨v2, vs2, d2, ds2, p2, q2, rfl, rfl, rfl, h2, r2⟩ := trodAll_cons r1
  obtain ⟨rfl, rfl, rfl⟩ := trodAll_nil r2
  obtain rfl : args = #[v0, v1, v2] := by cases args; simp_all
  obtain ⟨rfl, rfl⟩ := trodVars_none hV
  have k0 := h0
  have lt0 : ∀ x ∈ p0, x.block < W.heap.size := by obtain ⟨m, hm⟩ := k0; exact DataW.trod_lt m _ _ _ hm
  obtain ⟨A0, n0, c0, xs0, rfl, hn0, hc0, hrd0, hwf0⟩ := open_table (hval 0 27 v0 rfl rfl) h0
  have k1 := h1
  have lt1 : ∀ x ∈ p1, x.block < W.heap.size := by obtain ⟨m, hm⟩ := k1; exact DataW.trod_lt m _ _ _ hm
  obtain ⟨A1, n1, c1, xs1, rfl, hn1, hc1, hrd1, hwf1⟩ := open_table (hval 1 27 v1 rfl rfl) h1
  have k2 := h2
  have lt2 : ∀ x ∈ p2, x.block < W.heap.size := by obtain ⟨m, hm⟩ := k2; exact DataW.trod_lt m _ _ _ hm
  obtain ⟨A2, n2, c2, xs2, rfl, hn2, hc2, hrd2, hwf2⟩ := open_strRowT (show Tryd.prog.underlying 24 = some (.slice 9) by kernel_rfl) (show Tryd.prog.underlying 9 = some .string by kernel_rfl) (show Tryd.prog.cellsOf 9 = 1 by kernel_rfl) (hval 2 24 v2 rfl rfl) h2
  clear hA0 hval0
  refine (namesPuts_walk A0 n0 c0 xs0 A1 n1 c1 xs1 A2 n2 c2 xs2 W hn0 hc0 hrd0 hwf0 hn1 hc1 hrd1 hwf1 hn2 hc2 hrd2 hwf2 (of_laid hL)).mono fun e W' ⟨he, bel⟩ => ?_
  subst he
  exact ⟨_, rfl, _, _, _, [], _, [], hW', trodAll_mk1 (shut_bool (show Tryd.prog.underlying 4 = some .bool by kernel_rfl) _), (trodAll_cons_mk (Below.trod laidOut_ (by kernel_rfl) (of_decide_eq_true (by kernel_rfl)) k0 bel lt0) (trodAll_cons_mk (Below.trod laidOut_ (by kernel_rfl) (of_decide_eq_true (by kernel_rfl)) k1 bel lt1) (trodAll_cons_mk (Below.trod laidOut_ (by kernel_rfl) (of_decide_eq_true (by kernel_rfl)) k2 bel lt2) trodAll_mk0))), rfl, bel.frame _, fun h => by cases h⟩

theorem namesPuts_holds : Rows.NamesPutsSaid :=
  OpenClaim.holds_of_wide 6 Tryd.f6 rfl rfl rfl rfl rfl rfl rfl ⟨rfl, rfl, rfl, rfl, rfl⟩ rfl rfl rfl rfl rfl (by kernel_rfl) Tryd.func6 (by kernel_rfl)
    (of_decide_eq_true (by kernel_rfl)) (by unfold Func.isWrapper; first | (rw [if_pos (by decide +kernel)]; kernel_rfl) | (rw [if_neg (by decide +kernel)]; exact ⟨rfl, rfl⟩))
    (fun os started H enc _ => lifted_namesPuts os started H enc)
theorem namesPuts_card : Rows.NamesPutsCardSaid :=
  Claim7.holds_tied_plain_at .later [] [.data, .pinned] true Rows.namesPutsCard.stood.harness false
    namesPuts_holds (fun _ h => by cases h) (by kernel_rfl) (fun _ h => by cases h) namesPuts_row_tie rfl ⟨rfl, rfl⟩ (by kernel_rfl) rfl
    (fun f fn hf hfn => by
      obtain rfl : f = 6 := Option.some.inj ((show Tryd.prog.funcNamed "yardarm/yardarmlaw10.NamesPuts" = some 6 by kernel_rfl).symm.trans hf) |>.symm
      obtain rfl : fn = Tryd.f6 := (Option.some.inj (Tryd.func6.symm.trans hfn)).symm
      exact ⟨by kernel_rfl, fun j t ht => by
        rw [Tryd.params6] at ht
        have hm : t ∈ [27, 24] := by simpa using Array.mem_of_getElem? ht
        have hall : ([27, 24].all fun u => !Tryd.prog.wantsStandIn u) = true := by kernel_rfl
        exact (show Tryd.prog.wantsStandIn t = false by simpa using List.all_eq_true.1 hall t hm)⟩)
    (by kernel_rfl)
#print axioms namesPuts_card
end Go.Proofs.YtpfmbehhppbcnaaDoor
