/- lex: tokens as values and as elements of rows. -/
import Derived.Test.YtlianjnmfgakkaaDoorLxN
import Derived.Test.YtlianjnmfgakkaaDoorGraA
namespace Go.Proofs.YtlianjnmfgakkaaDoor
open Go.RowKit

def tokCells (t : Tok) : List Value := [.int .i64 t.kind, .int .i64 t.pl, .string t.text, .bool t.glued]
def tokE : El Tok := ⟨tokCells, 4, fun _ => rfl, by decide, fun x u hu => by simp [tokCells] at hu; rcases hu with rfl | rfl | rfl | rfl <;> rfl⟩
abbrev tokV (t : Tok) : Value := .agg #[.int .i64 t.kind, .int .i64 t.pl, .string t.text, .bool t.glued]
theorem tyTok : Ty Tryd.prog tokE 34 29 40 := ty_of (sz := 4) (z := .agg #[.int .i64 0, .int .i64 0, .string ⟨#[]⟩, .bool false]) (by kernel_rfl) (by kernel_rfl) rfl rfl (by decide)
section
variable {B : Nat} {w : World} {b off : Nat}
theorem RdAt.tok {xs : List Tok} (h : RdAt tokE B w b off xs) {i : Nat} {t : Tok} (hx : xs[i]? = some t) :
    w.cell? ⟨b, off + i * 4, none⟩ = some (.int .i64 t.kind) ∧ w.cell? ⟨b, off + i * 4 + 1, none⟩ = some (.int .i64 t.pl) ∧ w.cell? ⟨b, off + i * 4 + 2, none⟩ = some (.string t.text) ∧ w.cell? ⟨b, off + i * 4 + 3, none⟩ = some (.bool t.glued) :=
  ⟨h.2 i _ hx 0 _ rfl, h.2 i _ hx 1 _ rfl, h.2 i _ hx 2 _ rfl, h.2 i _ hx 3 _ rfl⟩
end
theorem results_cell3 {P : Program} {fn : Func} {p u v : Tmp} {ty : TypeId} (h : fn.results = #[.cell p ty, .tmp u, .tmp v]) (tmps : Array Value) (w : World) (g : Nat) (t : TypeId) (cs : Array Value) (fr : Nat × Nat) (d : TypeDesc)
    (hp : tmps.getD p undef = .pointer (some ⟨g, 0, none⟩)) (hg : w.heap[g]? = some (.cells cs t fr))
    (hu : P.underlying ty = some d) (hd : (match d with | .struct _ | .array _ _ => true | _ => false) = true) (hi : (P.info? ty).map (·.size) = some cs.size) :
    (results fn tmps).run P w = .ok (.tuple #[.agg cs, tmps.getD u undef, tmps.getD v undef]) w := by
  have hp' : tmps[p]?.getD undef = .pointer (some ⟨g, 0, none⟩) := by simpa using hp
  simp only [results, h]
  simp [Sem.run_bind, Result.andThen, hp', asAddr, run_loadVar_row w g t ty cs fr d hg hu hd hi]
def neT (x y : Tok) : Bool := !decide (x = y)
theorem tok_ext {a p : Int} {b q : Int} {c r : ByteArray} {d e : Bool} : ((⟨a, b, c, d⟩ : Tok) = ⟨p, q, r, e⟩) ↔ (a = p ∧ b = q ∧ c = r ∧ d = e) := by
  constructor
  · intro h; cases h; exact ⟨rfl, rfl, rfl, rfl⟩
  · rintro ⟨rfl, rfl, rfl, rfl⟩; rfl
theorem bytes_beq (c r : ByteArray) : (c.toList == r.toList) = decide (c = r) := by
  rw [Bool.eq_iff_iff, beq_iff_eq, decide_eq_true_iff]
  constructor
  · intro h
    rw [toList_data', toList_data'] at h
    exact ByteArray.ext (Array.toList_inj.1 h)
  · intro h; rw [h]
end Go.Proofs.YtlianjnmfgakkaaDoor
