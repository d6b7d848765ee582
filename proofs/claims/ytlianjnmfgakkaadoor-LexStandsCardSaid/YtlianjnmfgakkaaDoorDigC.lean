/- The text of a number: its digits; the contract of digit.Text. -/
import Derived.Test.YtlianjnmfgakkaaDoorDigB
import Derived.Test.YtlianjnmfgakkaaDoorOwn
import Derived.Laws.BytesString
namespace Go.Proofs.YtlianjnmfgakkaaDoor
open Go.RowKit

/-- the digits of a number from 0 on, as letters -/
def dig (m : Nat) : List Int := if m < 10 then [48 + (m : Int)] else dig (m / 10) ++ [48 + ((m % 10 : Nat) : Int)]
termination_by m
def txt (n : Int) : List Int := if n < 0 then 45 :: dig n.natAbs else dig n.natAbs
/-- the bytes of a text, from their numbers -/
def bs (l : List Int) : ByteArray := ⟨(l.map fun n => UInt8.ofNat n.toNat).toArray⟩
theorem bs_foldl : ∀ (l : List Int) (s : ByteArray), l.foldl (fun r n => r.push (UInt8.ofNat n.toNat)) s = ⟨s.data ++ (l.map fun n => UInt8.ofNat n.toNat).toArray⟩
  | [], s => by cases s; simp
  | n :: l, s => by
    rw [List.foldl_cons, bs_foldl l]
    congr 1
    cases s
    simp [ByteArray.push]
theorem bs_eq (l : List Int) : l.foldl (fun r n => r.push (UInt8.ofNat n.toNat)) ByteArray.empty = bs l := by
  rw [bs_foldl]
  unfold bs
  congr 1
  show #[] ++ _ = _
  simp
/-- what is still to be written of a number -/
def togo (first : Bool) (m : Nat) : List Int := if first = true ∨ 0 < m then dig m else []
theorem togo_step {first : Bool} {m : Nat} (h : first = true ∨ 0 < m) : togo first m = togo false (m / 10) ++ [48 + ((m % 10 : Nat) : Int)] := by
  unfold togo
  rw [if_pos h, dig]
  split
  · rename_i h1
    have : m / 10 = 0 := by omega
    have h2 : m % 10 = m := by omega
    rw [this, if_neg (by simp), h2]
    rfl
  · rw [if_pos (by right; omega)]
theorem dig_length : ∀ (f m : Nat), m ≤ f → (dig m).length ≤ m + 1
  | 0, m, h => by
    have : m = 0 := by omega
    subst this
    rw [dig]
    simp
  | f + 1, m, h => by
    rw [dig]
    split
    · simp
    · have := dig_length f (m / 10) (by omega)
      simp only [List.length_append, List.length_cons, List.length_nil]
      omega

theorem dig_le : ∀ (k m : Nat), m < 10 ^ k → 0 < k → (dig m).length ≤ k
  | 0, _, _, h => by omega
  | k + 1, m, h, _ => by
    rw [dig]
    split
    · simp
    · have hk : 0 < k := by
        rcases Nat.eq_zero_or_pos k with rfl | h'
        · simp at h; omega
        · exact h'
      have := dig_le k (m / 10) (by rw [Nat.pow_succ] at h; omega) hk
      simp only [List.length_append, List.length_cons, List.length_nil]
      omega

/-- bytes, as numbers -/
def u8E : El Int := ⟨fun x => [.int .u8 x], 1, fun _ => rfl, by decide, fun x u hu => by simp at hu; subst hu; rfl⟩
theorem u8E_row : ∀ l : List Int, u8E.row l = l.map (.int .u8)
  | [] => rfl
  | x :: l => by rw [u8E.row_cons, u8E_row l]; rfl
theorem tyU8 : Ty Tryd.prog u8E 61 5 1 := ty_of (z := .int .u8 0) (sz := 1) (by kernel_rfl) (by kernel_rfl) rfl rfl (by decide)
theorem text_of {B : Nat} {w : World} {A : Option Addr} {xs : List Int} {n c : Nat} (h : Rd u8E B w A xs) (hn : n = xs.length) :
    (convert 61 9 (.slice A n c)).run Tryd.prog w = .ok (.string (bs xs)) w := by
  subst hn
  rw [run_convert_bytes_string w 61 9 5 A xs.length c (by kernel_rfl) (by kernel_rfl) (by kernel_rfl)]
  rcases h with rfl | ⟨b, off, rfl, h⟩
  · cases A with
    | none => simp [Conv.bytesToString, bs]; rfl
    | some a =>
      exact run_bytesToString w a 0 c [] (by simp [loadCells, loadCellsFrom])
  · rw [← bs_eq]
    refine run_bytesToString w _ _ _ xs ?_
    have := run_loadCells_list (P := Tryd.prog) w ⟨b, off, none⟩ (xs.map (.int .u8)) (fun j v hv => by
      refine h.cells j v ?_
      rw [u8E_row]
      exact hv)
    simpa using this

def ofB : Value → Nat
  | .bool true => 1
  | _ => 0
end Go.Proofs.YtlianjnmfgakkaaDoor
