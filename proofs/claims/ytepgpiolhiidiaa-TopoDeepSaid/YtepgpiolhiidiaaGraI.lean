/- The document's Of, Reverse, Starts. -/
import Derived.Test.YtepgpiolhiidiaaGraH
namespace Go.Proofs.Ytepgpiolhiidiaa
open Go.RowKit

def turn (x : Int × Int × Int) : Int × Int × Int := (x.2.1, x.1, x.2.2)
def cntB (xs : List (Int × Int × Int)) (v : Nat) : Nat := xs.countP fun x => decide (x.1 < (v : Int))
def starts (xs : List (Int × Int × Int)) (k : Nat) : List Int := (List.range k).map fun v => (cntB xs v : Int)
theorem starts_snoc (xs : List (Int × Int × Int)) (k : Nat) : starts xs (k + 1) = starts xs k ++ [(cntB xs k : Int)] := by unfold starts; rw [List.range_succ, List.map_append]; rfl
theorem starts_len (xs : List (Int × Int × Int)) (k : Nat) : (starts xs k).length = k := by unfold starts; simp
theorem cnt_snoc {xs : List (Int × Int × Int)} {l : Nat} {p1 p2 p3 : Int} (v : Nat) (h : xs[l]? = some (p1, p2, p3)) : cntB (xs.take (l + 1)) v = cntB (xs.take l) v + if p1 < (v : Int) then 1 else 0 := by unfold cntB; rw [take_snoc h, List.countP_append, List.countP_singleton]; simp
end Go.Proofs.Ytepgpiolhiidiaa
