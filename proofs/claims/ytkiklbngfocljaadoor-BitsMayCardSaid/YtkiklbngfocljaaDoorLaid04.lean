/- The library's table as its text lays it: what the condition gives the walks, and that the door's own heap meets it. -/
import Derived.Test.YtkiklbngfocljaaDoorRows
import Derived.Test.YtkiklbngfocljaaDoorTie
import Derived.Test.YtkiklbngfocljaaDoorBitC
import Derived.Test.YtkiklbngfocljaaDoorOpenG
import Derived.LaidMore
import Derived.Stop.Joined
namespace Go.Proofs.YtkiklbngfocljaaDoor
open Go.ChangeShapes Go.WideShapes Go.ChangeAt Go.RowKit
def laidL : List (String × DataW Unit) := [("math/bits.deBruijn64tab", Rows.laid_math_bits_deBruijn64tab)]
theorem door_met (os : Os) (args : Array Value) : laidMetH Tryd.prog laidL ((World.doorLaid Tryd.prog 400 os).forCall (fun _ _ => 0) ⟨#[], args, []⟩).memory :=
  laidMetH_of_parts3 (fuel := 8) (laidMet_of_run' 8 (by kernel_rfl) (by kernel_rfl)) (by kernel_rfl) (by kernel_rfl)
theorem gT : Tryd.prog.globalNamed "math/bits.deBruijn64tab" = some 0 := by kernel_rfl
theorem tT : (Tryd.prog.globals[0]?).map (·.type) = some 79 := by kernel_rfl
theorem row_of {W : World} {g n : Nat} {t e : TypeId} {l : List Nat} {name : String} {cs : Array Value} {f : Nat} {p : List MemPlace} (ht : Tryd.prog.underlying t = some (.array n e)) (he : Tryd.prog.underlying e = some (.int .u8)) (hc1 : Tryd.prog.cellsOf e = 1) (hl : l.length = n)
    (hg : Tryd.prog.globalNamed name = some g) (hv : W.var? Tryd.prog name = some cs) {enc : TypeId × Value → Unit} {base : Nat} {sp : Nat → Bool} {hd : Bool} (h : DataW.trod enc Tryd.prog W base sp hd f t cs.toList = some (.agg (l.map fun (s : Nat) => .lit (.int .u8 (s : Int))), p)) :
    ∀ (j : Nat) s, l[j]? = some s → W.cell? ⟨g, j, none⟩ = some (.int .u8 (s : Int)) := by
  obtain ⟨xs, m1, rfl, hx1, hlen, hxn, hel⟩ := DataW.trod_array ht h
  intro j s hs
  have hj : j < n := by rw [← hl]; exact (List.getElem?_eq_some_iff.1 hs).1
  have h0 := hel j hj
  rw [hc1, Nat.mul_one] at h0
  simp only [Prod.mk.injEq, DataW.agg.injEq] at hx1
  obtain ⟨x, hx⟩ : ∃ x, xs[j]? = some x := ⟨xs[j]'(by omega), List.getElem?_eq_getElem (by omega)⟩
  rw [hx] at h0
  obtain ⟨s', e1, e2, _⟩ := DataW.trod_int he h0
  have e3 : (xs.map (·.1))[j]? = some (.lit (.int .u8 (s : Int))) := by
    rw [← hx1.1, List.getElem?_map, hs]
    rfl
  rw [List.getElem?_map, hx, Option.map_some, e2] at e3
  have e4 : s' = (s : Int) := by simpa using e3
  subst e4
  rw [World.var?_cell hg hv j]
  have e5 : (cs.toList.drop j)[0]? = some (.int .u8 (s : Int)) := by
    have := congrArg (fun l : List Value => l[0]?) e1
    rw [List.getElem?_take] at this
    simpa using this
  rw [List.getElem?_drop, Nat.add_zero] at e5
  rw [← Array.getElem?_toList]
  exact e5
theorem of_laid {W : World} (h : laidMetH Tryd.prog laidL W) : LaidT W := by
  rw [MakeChecks.laidMetH_plain _ _ _ (by kernel_rfl)] at h
  obtain ⟨ps, ⟨g0, t0, cs0, f0, p0, q0, hg0, ht0, hv0, hd0, _, _⟩, _, _⟩ := h
  obtain rfl := Option.some.inj (gT.symm.trans hg0)
  obtain rfl := Option.some.inj (tT.symm.trans ht0)
  have a := row_of (l := deb) (e := 5) (n := 64) (by kernel_rfl) (by kernel_rfl) (by kernel_rfl) rfl hg0 hv0 hd0
  exact ⟨a, World.block_lt_of_cell? W _ (a 0 _ rfl)⟩
end Go.Proofs.YtkiklbngfocljaaDoor
