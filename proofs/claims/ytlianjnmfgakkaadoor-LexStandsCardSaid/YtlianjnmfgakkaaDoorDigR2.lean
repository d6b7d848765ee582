/- The document's own words on numbers and texts: yardarmref01's above, Looks, Read. -/
import Derived.Test.YtlianjnmfgakkaaDoorDigR
namespace Go.Proofs.YtlianjnmfgakkaaDoor
open Go.RowKit Go.Lib

def aboveB (a b : ByteArray) : Bool := decide (b.size < a.size) || (decide (a.size = b.size) && (!Op.bytesLess a.toList b.toList && !a.toList == b.toList))
theorem above_any (a b : ByteArray) (ha : a.size ≤ 1000000000) (hb : b.size ≤ 1000000000) (w : World) :
    Calls Tryd.prog 70 #[.string a, .string b] w fun e w' => e = .returned (.bool (aboveB a b)) ∧ w' = w := by
  by_cases h1 : b.size < a.size
  · go_enter Tryd.func70, Tryd.ntmps70
    go_wp2
    go_ret
    exact ⟨by unfold aboveB; rw [decide_eq_true h1]; rfl, rfl⟩
  · by_cases h2 : a.size = b.size
    · go_enter Tryd.func70, Tryd.ntmps70
      go_wp2
      go_ret
      exact ⟨by unfold aboveB; rw [decide_eq_false h1, decide_eq_true h2]; rfl, rfl⟩
    · have h3 : ((a.size : Int) == (b.size : Int)) = false := by rw [beq_eq_false_iff_ne]; omega
      go_enter Tryd.func70, Tryd.ntmps70
      go_wp2
      go_ret
      exact ⟨by unfold aboveB; rw [decide_eq_false h1, decide_eq_false h2]; rfl, rfl⟩

theorem val_fold : ∀ (D : List Int) (a : Nat), D.foldl (fun a b => a * 10 + (b - 48).toNat) a = a * 10 ^ D.length + val D
  | [], a => by simp [val]
  | b :: D, a => by
    have h1 := val_fold D (a * 10 + (b - 48).toNat)
    have h2 := val_fold D (0 * 10 + (b - 48).toNat)
    have h3 : val (b :: D) = (0 * 10 + (b - 48).toNat) * 10 ^ D.length + val D := h2
    rw [List.foldl_cons, h1, h3, List.length_cons, Nat.pow_succ]
    simp only [Nat.add_mul, Nat.zero_mul, Nat.zero_add]
    rw [Nat.mul_assoc a 10, Nat.mul_comm 10 (10 ^ D.length)]
    omega
theorem val_cons (b : Int) (D : List Int) : val (b :: D) = (b - 48).toNat * 10 ^ D.length + val D := by
  have := val_fold D (0 * 10 + (b - 48).toNat)
  have h3 : val (b :: D) = (0 * 10 + (b - 48).toNat) * 10 ^ D.length + val D := this
  rw [Nat.zero_mul, Nat.zero_add] at h3
  exact h3
theorem val_lt : ∀ D : List Int, (∀ b ∈ D, isD b = true) → val D < 10 ^ D.length
  | [], _ => by simp [val]
  | b :: D, h => by
    have h1 := val_lt D (fun x hx => h x (List.mem_cons_of_mem _ hx))
    have h2 := h b (by simp)
    unfold isD at h2
    simp at h2
    rw [val_cons, List.length_cons, Nat.pow_succ]
    have : (b - 48).toNat * 10 ^ D.length ≤ 9 * 10 ^ D.length := Nat.mul_le_mul_right _ (by omega)
    omega
def ds (a : List UInt8) : List Int := a.map fun b => (b.toNat : Int)
theorem ds_length (a : List UInt8) : (ds a).length = a.length := by simp [ds]
theorem less_val : ∀ a b : List UInt8, a.length = b.length → (∀ x ∈ ds a, isD x = true) → (∀ x ∈ ds b, isD x = true) → Op.bytesLess a b = decide (val (ds a) < val (ds b))
  | [], [], _, _, _ => by simp [Op.bytesLess, ds]
  | [], _ :: _, h, _, _ => by simp at h
  | _ :: _, [], h, _, _ => by simp at h
  | x :: a, y :: b, hl, ha, hb => by
    have hl' : a.length = b.length := by simpa using hl
    have ha' : ∀ z ∈ ds a, isD z = true := fun z hz => ha z (List.mem_cons_of_mem _ hz)
    have hb' : ∀ z ∈ ds b, isD z = true := fun z hz => hb z (List.mem_cons_of_mem _ hz)
    have ih := less_val a b hl' ha' hb'
    have v1 : val (ds (x :: a)) = ((x.toNat : Int) - 48).toNat * 10 ^ a.length + val (ds a) := by
      show val (_ :: ds a) = _
      rw [val_cons, ds_length]
    have v2 : val (ds (y :: b)) = ((y.toNat : Int) - 48).toNat * 10 ^ a.length + val (ds b) := by
      show val (_ :: ds b) = _
      rw [val_cons, ds_length, hl']
    have b1 := val_lt _ ha'
    have b2 := val_lt _ hb'
    rw [ds_length] at b1 b2
    rw [← hl'] at b2
    have hx := ha x.toNat (by simp [ds])
    have hy := hb y.toNat (by simp [ds])
    unfold isD at hx hy
    simp at hx hy
    have hlt : decide (x < y) = decide (x.toNat < y.toNat) := decide_eq_decide.2 UInt8.lt_iff_toNat_lt
    have heq : (x == y) = decide (x.toNat = y.toNat) := by
      by_cases h : x = y
      · subst h; simp
      · rw [beq_eq_false_iff_ne.2 h, decide_eq_false]
        exact fun e => h (UInt8.toNat_inj.1 e)
    rw [Op.bytesLess, ih, hlt, heq, v1, v2]
    rcases Nat.lt_trichotomy x.toNat y.toNat with h | h | h
    · have : (((x.toNat : Int) - 48).toNat + 1) * 10 ^ a.length ≤ ((y.toNat : Int) - 48).toNat * 10 ^ a.length := Nat.mul_le_mul_right _ (by omega)
      rw [Nat.add_mul] at this
      rw [decide_eq_true h, Bool.true_or, eq_comm, decide_eq_true_eq]
      omega
    · rw [decide_eq_false (by omega), decide_eq_true h, Bool.true_and, Bool.false_or, h]
      apply decide_eq_decide.2
      omega
    · have : (((y.toNat : Int) - 48).toNat + 1) * 10 ^ a.length ≤ ((x.toNat : Int) - 48).toNat * 10 ^ a.length := Nat.mul_le_mul_right _ (by omega)
      rw [Nat.add_mul] at this
      rw [decide_eq_false (by omega), decide_eq_false (by omega), Bool.false_and, Bool.or_false, eq_comm, decide_eq_false_iff_not]
      omega
theorem less_both : ∀ a b : List UInt8, Op.bytesLess a b = false → Op.bytesLess b a = false → a = b
  | [], [], _, _ => rfl
  | [], _ :: _, h, _ => by simp [Op.bytesLess] at h
  | _ :: _, [], _, h => by simp [Op.bytesLess] at h
  | x :: a, y :: b, h1, h2 => by
    simp only [Op.bytesLess, Bool.or_eq_false_iff, decide_eq_false_iff_not, Bool.and_eq_false_iff] at h1 h2
    have hxy : x = y := by
      have n1 : ¬ x.toNat < y.toNat := fun h => h1.1 (UInt8.lt_iff_toNat_lt.2 h)
      have n2 : ¬ y.toNat < x.toNat := fun h => h2.1 (UInt8.lt_iff_toNat_lt.2 h)
      exact UInt8.toNat_inj.1 (by omega)
    subst hxy
    have e1 : Op.bytesLess a b = false := by rcases h1.2 with h | h; simp at h; exact h
    have e2 : Op.bytesLess b a = false := by rcases h2.2 with h | h; simp at h; exact h
    rw [less_both a b e1 e2]
/-- of two texts of digits, this one without needless noughts ahead, the one above is the greater number -/
theorem above_val {a b : ByteArray} {k : Nat} (ha : ∀ x ∈ nums a, isD x = true) (hb : ∀ x ∈ nums b, isD x = true) (h0 : nums a ≠ []) (h1 : (nums a).head? = some 48 → (nums a).length = 1) (hk : b.size = k) (hb1 : 10 ^ (k - 1) ≤ val (nums b)) (hk2 : 2 ≤ k) :
    aboveB a b = decide (val (nums b) < val (nums a)) := by
  have la := val_lt _ ha
  have lb := val_lt _ hb
  rw [nums_length] at la lb
  unfold aboveB
  rcases Nat.lt_trichotomy b.size a.size with h | h | h
  · rw [decide_eq_true h, Bool.true_or, eq_comm, decide_eq_true_eq]
    cases hn : nums a with
    | nil => exact absurd hn h0
    | cons x D =>
      have hl : D.length + 1 = a.size := by rw [← nums_length, hn, List.length_cons]
      have hx : x ≠ 48 := by
        intro e
        have := h1 (by rw [hn, e]; rfl)
        rw [nums_length] at this
        omega
      have hxd := ha x (by rw [hn]; simp)
      unfold isD at hxd
      simp at hxd
      rw [val_cons]
      have p1 : 1 * 10 ^ D.length ≤ (x - 48).toNat * 10 ^ D.length := Nat.mul_le_mul_right _ (by omega)
      have p2 : 10 ^ b.size ≤ 10 ^ D.length := Nat.pow_le_pow_right (by decide) (by omega)
      omega
  · rw [decide_eq_false (by omega), decide_eq_true h.symm, Bool.false_or, Bool.true_and]
    rw [Lib.toList_data, Lib.toList_data]
    have hlen : a.data.toList.length = b.data.toList.length := by
      rw [Array.length_toList, Array.length_toList]
      exact h.symm
    have e1 := less_val a.data.toList b.data.toList hlen ha hb
    have e2 := less_val b.data.toList a.data.toList hlen.symm hb ha
    have na : ds a.data.toList = nums a := rfl
    have nb : ds b.data.toList = nums b := rfl
    rw [na, nb] at e1 e2
    rw [e1]
    rcases Nat.lt_trichotomy (val (nums a)) (val (nums b)) with g | g | g
    · rw [decide_eq_true g, decide_eq_false (by omega)]
      rfl
    · have : a.data.toList = b.data.toList := less_both _ _ (by rw [e1]; simp; omega) (by rw [e2]; simp; omega)
      rw [this, decide_eq_false (by omega), decide_eq_false (by omega)]
      simp
    · rw [decide_eq_false (by omega), decide_eq_true g]
      have : (a.data.toList == b.data.toList) = false := by
        rw [beq_eq_false_iff_ne]
        intro e
        rw [← na, ← nb, e] at g
        omega
      rw [this]
      rfl
  · rw [decide_eq_false (by omega), decide_eq_false (by omega), Bool.false_or, Bool.false_and, eq_comm, decide_eq_false_iff_not]
    have p2 : 10 ^ a.size ≤ 10 ^ (k - 1) := Nat.pow_le_pow_right (by decide) (by omega)
    omega

/-- does a text look like a number's? -/
def looksB : List Int → Bool
  | [] => false
  | x :: r => if x = 45 then !(r == [48]) && (looksB r && !(r.head? == some 45)) else (x :: r).all isD && ((x :: r) == [48] || !(x == 48))
end Go.Proofs.YtlianjnmfgakkaaDoor
