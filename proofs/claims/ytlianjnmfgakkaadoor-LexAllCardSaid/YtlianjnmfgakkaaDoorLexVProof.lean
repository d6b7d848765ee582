/- LexAllCardSaid: all tokens of texts, and the text of tokens, by lex and by the document, for every row of texts and every row of tokens. No condition beside the card's own: the library's tables hold what their texts lay. -/
import Derived.Test.YtlianjnmfgakkaaDoorRows
import Derived.Test.YtlianjnmfgakkaaDoorCards
import Derived.Test.YtlianjnmfgakkaaDoorLaid10
import Derived.Test.YtlianjnmfgakkaaDoorOpenG
import Derived.Test.YtlianjnmfgakkaaDoorOpenK
import Derived.Test.YtlianjnmfgakkaaDoorLexV
import Derived.SevenTiedAt
namespace Go.Proofs.YtlianjnmfgakkaaDoor
open Go Go.RowKit Go.ChangeShapes Go.WideShapes Go.ChangeAt
theorem lexAll_walk (A : Option Addr) (n c : Nat) (xs : List ByteArray) (B : Option Addr) (m d : Nat) (l : List Tok) (w : World) (hn : n = xs.length) (hc : n ≤ c ∧ c ≤ maxLen) (h : Rd strE w.heap.size w A xs) (hs : ∀ x ∈ xs, x.size ≤ maxLen)
    (hn' : m = l.length) (hc' : m ≤ d ∧ d ≤ maxLen) (h' : Rd tokE w.heap.size w B l) (hs' : ∀ x ∈ l, x.text.size ≤ maxLen) (hL : LaidU w) :
    Calls Tryd.prog 7 #[.slice A n c, .slice B m d] w fun e w' => e = .returned (.bool true) ∧ Below w.heap.size w w' :=
  lexAll_any A n c xs B m d l w hn (Nat.le_trans hc.1 hc.2) h hs hn' hc'.1 hc'.2 h' hs' hL
set_option maxRecDepth 100000 in
theorem lifted_lexAll (os : Os) (started : os.Started) (H : Type) (enc : TypeId × Value → H) :
    ReturnsInHanded {} Tryd.checked os 7 .any (fun w args => (Rows.lexAllSpec.pre enc Tryd.prog Tryd.f7 [] false w args ∧ laidMetH Tryd.prog laidL w) ∧ sizedMet enc Tryd.prog Tryd.f7 (OpenSpec.ofChange Rows.lexAllSpec) false w args) (Rows.lexAllSpec.post enc Tryd.prog Tryd.f7 false true false false) := by
  refine returnsInHanded_of_change_and (C := Tryd.checked) (X := fun w _ => laidMetH Tryd.prog laidL w) (fun _ _ _ hh h => h.of_heap hh) ownKnob_ started (by kernel_rfl) Tryd.func7
    (ChangeSpec.witness_shaped (enc := enc) (C := Tryd.checked) (os := os) (X := fun w _ => laidMetH Tryd.prog laidL w) false (World.laidAll Tryd.prog os laidL) #[.slice none 0 0, .slice none 0 0] 8 (World.laidAll_os _ _ _) (World.shaped_of_ZipB (by kernel_rfl) (by kernel_rfl)) (by kernel_rfl) (by kernel_rfl) (by kernel_rfl) (door_met os _)) ?_
  intro W base args ds gs before hval0 hW _ _ hL _
  have hval : ∀ (j : Nat) t v, Tryd.f7.params[j]? = some t → args[j]? = some v → Value.okWide Tryd.prog W .any base t v := hval0
  have hW' := hW
  obtain ⟨p, q, hA0, hV, rfl, hfz, hnd⟩ := hW
  have hA : DataW.TrodAll enc Tryd.prog W 0 (fun _ => true) true Tryd.f7.params.toList args.toList ds p := hA0
  rw [Tryd.params7] at hA hval
  obtain ⟨v0, vs0, d0, ds0, p0, q0, hargs, rfl, rfl, h0, r0⟩ := trodAll_cons hA
  obtain ⟨v1, vs1, d1, ds1, p1, q1, rfl, rfl, rfl, h1, r1⟩ := trodAll_cons r0
  obtain ⟨rfl, rfl, rfl⟩ := trodAll_nil r1
  obtain rfl : args = #[v0, v1] := by cases args; simp_all
  obtain ⟨rfl, rfl⟩ := trodVars_none hV
  have k0 := h0
  have lt0 : ∀ x ∈ p0, x.block < W.heap.size := by obtain ⟨m, hm⟩ := k0; exact DataW.trod_lt m _ _ _ hm
  obtain ⟨A0, n0, c0, xs0, rfl, hn0, hc0, hrd0, hwf0⟩ := open_strRowT (show Tryd.prog.underlying 22 = some (.slice 9) by kernel_rfl) (show Tryd.prog.underlying 9 = some .string by kernel_rfl) (show Tryd.prog.cellsOf 9 = 1 by kernel_rfl) (hval 0 22 v0 rfl rfl) h0
  have k1 := h1
  have lt1 : ∀ x ∈ p1, x.block < W.heap.size := by obtain ⟨m, hm⟩ := k1; exact DataW.trod_lt m _ _ _ hm
  obtain ⟨A1, n1, c1, xs1, rfl, hn1, hc1, hrd1, hwf1⟩ := open_tokRow (hval 1 34 v1 rfl rfl) h1
  clear hA0 hval0
  refine (lexAll_walk A0 n0 c0 xs0 A1 n1 c1 xs1 W hn0 hc0 hrd0 hwf0 hn1 hc1 hrd1 hwf1 (of_laid hL)).mono fun e W' ⟨he, bel⟩ => ?_
  subst he
  exact ⟨_, rfl, _, _, _, [], _, [], hW', trodAll_mk1 (shut_bool (show Tryd.prog.underlying 4 = some .bool by kernel_rfl) _), (trodAll_cons_mk (Below.trod laidOut_ (by kernel_rfl) (of_decide_eq_true (by kernel_rfl)) k0 bel lt0) (trodAll_cons_mk (Below.trod laidOut_ (by kernel_rfl) (of_decide_eq_true (by kernel_rfl)) k1 bel lt1) trodAll_mk0)), rfl, bel.frame _, fun h => by cases h⟩

theorem lexAll_holds : Rows.LexAllSaid :=
  OpenClaim.holds_of_wide 7 Tryd.f7 rfl rfl rfl rfl rfl rfl rfl ⟨rfl, rfl, rfl, rfl, rfl⟩ rfl rfl rfl rfl rfl (by kernel_rfl) Tryd.func7 (by kernel_rfl)
    (of_decide_eq_true (by kernel_rfl)) (by unfold Func.isWrapper; first | (rw [if_pos (by decide +kernel)]; kernel_rfl) | (rw [if_neg (by decide +kernel)]; exact ⟨rfl, rfl⟩))
    (fun os started H enc _ => lifted_lexAll os started H enc)
theorem lexAll_card : Rows.LexAllCardSaid :=
  Claim7.holds_tied_plain_at .later [] [.data, .pinned] true Rows.lexAllCard.stood.harness false
    lexAll_holds (fun _ h => by cases h) (by kernel_rfl) (fun _ h => by cases h) lexAll_row_tie rfl ⟨rfl, rfl⟩ (by kernel_rfl) rfl
    (fun f fn hf hfn => by
      obtain rfl : f = 7 := Option.some.inj ((show Tryd.prog.funcNamed "yardarm/yardarmlaw02.LexAll" = some 7 by kernel_rfl).symm.trans hf) |>.symm
      obtain rfl : fn = Tryd.f7 := (Option.some.inj (Tryd.func7.symm.trans hfn)).symm
      exact ⟨by kernel_rfl, fun j t ht => by
        rw [Tryd.params7] at ht
        have hm : t ∈ [22, 34] := by simpa using Array.mem_of_getElem? ht
        have hall : ([22, 34].all fun u => !Tryd.prog.wantsStandIn u) = true := by kernel_rfl
        exact (show Tryd.prog.wantsStandIn t = false by simpa using List.all_eq_true.1 hall t hm)⟩)
    (by kernel_rfl)
#print axioms lexAll_card
end Go.Proofs.YtlianjnmfgakkaaDoor
