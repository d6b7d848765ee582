/- Words for memory: rows of elements that read as lists, in worlds that only grow; regions that draw their order and whose operations read, or call what only adds memory. -/
import Derived.WalkKit
import Derived.WalkSpells
import Derived.WalkLawsBesides
import Derived.Deep.QuietTactic
import Derived.BigQuiet
import Derived.Deep.Draws
import Derived.Handy
namespace Go.Proofs.YtlianjnmfgakkaaDoor
open Go.RowKit

theorem hide {p : Prop} (h : p) : Hid p := h

theorem bcell {w W1 : World} {B : Nat} (hb : Below B w W1) : (∀ b o, b < B → W1.cell? ⟨b, o, none⟩ = w.cell? ⟨b, o, none⟩) ∧ (∀ b o, b < B → W1.frozen? ⟨b, o, none⟩ = w.frozen? ⟨b, o, none⟩) :=
  ⟨fun b o h => hb.cell (p := ⟨b, o, none⟩) h, fun b o h => hb.frozen (p := ⟨b, o, none⟩) h⟩

abbrev Ext (w : World) : World → Prop := Below w.heap.size w

theorem Ext.drew1 (w : World) : Ext w { w with drawn := w.drawn + 1 } := ⟨rfl, rfl, rfl, Nat.le_refl _, fun _ _ => rfl⟩

theorem wp_region_ext {P : Program} {id : Nat} {Q : Exit → Act → World → Prop} {a : Act} {w : World} {l : List Oper} (hm : P.follows .mixedOrders = true) (hB : Region.lexB .any l.toArray = true)
    (h : wpQuiet P l.toArray (Ext w) (fun a' => ∀ w', Ext w w' → Q .normal a' w') l a) : (Code.region id l.toArray true).wp P Q a w :=
  wp_region_quiet (C := Ext w) hm hB (Ext.drew1 w) (by simpa using h)

theorem ext_step {P : Program} {ops : Array Oper} {C : World → Prop} {Q : Act → Prop} {o : Oper} {rest : List Oper} {a : Act} {v : Value}
    (hg : o.guard = none) (h1 : ∀ W, C W → o.quietAt P a C W v) (h2 : wpQuiet P ops C Q rest (a.put o.dst v)) : wpQuiet P ops C Q (o :: rest) a := by
  unfold wpQuiet
  rw [if_pos (by simp [Region.wanted, hg])]
  exact ⟨v, h1, h2⟩
theorem ext_step_on {P : Program} {ops : Array Oper} {C : World → Prop} {Q : Act → Prop} {o : Oper} {rest : List Oper} {a : Act} {v : Value}
    (hg : Region.wanted o (yielded ops a.tmps) = true) (h1 : ∀ W, C W → o.quietAt P a C W v) (h2 : wpQuiet P ops C Q rest (a.put o.dst v)) : wpQuiet P ops C Q (o :: rest) a := by
  unfold wpQuiet
  rw [if_pos hg]
  exact ⟨v, h1, h2⟩
theorem ext_step_off {P : Program} {ops : Array Oper} {C : World → Prop} {Q : Act → Prop} {o : Oper} {rest : List Oper} {a : Act}
    (hg : Region.wanted o (yielded ops a.tmps) = false) (h2 : wpQuiet P ops C Q rest (a.put o.dst undef)) : wpQuiet P ops C Q (o :: rest) a := by
  unfold wpQuiet
  rw [if_neg (by rw [hg]; decide)]
  exact h2

/-- the element at a place, structurally -/
def nget {α : Type} : List α → Nat → Option α
  | [], _ => none
  | x :: _, 0 => some x
  | _ :: l, n + 1 => nget l n
theorem nget_eq {α : Type} : ∀ (l : List α) (i : Nat), l.toArray[i]? = nget l i
  | [], _ => by simp [nget]
  | x :: l, 0 => by simp [nget]
  | x :: l, n + 1 => by simpa [nget] using nget_eq l n
def isB (want : Bool) : Value → Bool
  | .bool b => b == want
  | _ => false
theorem wanted_is {o : Oper} {l : List Oper} {ts : List Value} {j d : Nat} {want b : Bool} {oj : Oper} {v : Value} (hg : o.guard = some (j, want)) (hj : nget l j = some oj) (hd : oj.dst = some d) (hv : nget ts d = some v) (hb : isB want v = b) :
    Region.wanted o (yielded l.toArray ts.toArray) = b := by
  simp only [Region.wanted, hg, yielded, nget_eq, hj, Option.bind_some, hd, hv]
  subst hb
  cases v <;> simp [isB]

theorem ret_int {k : IntKind} {a b : Int} (h : a = b) : Ending.returned (.int k a) = .returned (.int k b) := by rw [h]
theorem ret_bool {a b : Bool} (h : a = b) : Ending.returned (.bool a) = .returned (.bool b) := by rw [h]

/-! ### Elements -/
/-- how elements lie in memory -/
structure El (α : Type) where
  cs : α → List Value
  sz : Nat
  len : ∀ x, (cs x).length = sz
  pos : 0 < sz
  one : ∀ x, ∀ u ∈ cs x, u.oneCell' = true

def El.row {α : Type} (E : El α) (xs : List α) : List Value := xs.flatMap E.cs

section
variable {α : Type} (E : El α)
@[simp] theorem El.row_nil : E.row [] = [] := rfl
theorem El.row_cons (x : α) (xs : List α) : E.row (x :: xs) = E.cs x ++ E.row xs := rfl
theorem El.row_append (xs ys : List α) : E.row (xs ++ ys) = E.row xs ++ E.row ys := List.flatMap_append
theorem El.row_one (x : α) : E.row [x] = E.cs x := by simp [El.row]
theorem El.row_length : ∀ xs : List α, (E.row xs).length = xs.length * E.sz
  | [] => by simp
  | x :: xs => by rw [E.row_cons, List.length_append, E.len, El.row_length xs, List.length_cons, Nat.add_mul]; omega
theorem El.row_get : ∀ (xs : List α) (i : Nat) (x : α), xs[i]? = some x → ∀ j u, (E.cs x)[j]? = some u → (E.row xs)[i * E.sz + j]? = some u
  | [], i, x, h, _, _, _ => by simp at h
  | y :: xs, 0, x, h, j, u, hu => by
    have : y = x := by simpa using h
    subst this
    have hj : j < (E.cs y).length := (List.getElem?_eq_some_iff.1 hu).1
    rw [E.row_cons, Nat.zero_mul, Nat.zero_add, List.getElem?_append_left hj]; exact hu
  | y :: xs, i + 1, x, h, j, u, hu => by
    have hx : xs[i]? = some x := by simpa using h
    rw [E.row_cons, List.getElem?_append_right (by rw [E.len]; have := Nat.succ_mul i E.sz; simp only [Nat.succ_eq_add_one] at this; omega), E.len]
    have e : (i + 1) * E.sz + j - E.sz = i * E.sz + j := by have := Nat.succ_mul i E.sz; simp only [Nat.succ_eq_add_one] at this; omega
    rw [e]
    exact El.row_get xs i x hx j u hu
theorem El.row_one' (xs : List α) : ∀ u ∈ E.row xs, u.oneCell' = true := by
  intro u hu
  obtain ⟨x, _, hx⟩ := List.mem_flatMap.1 hu
  exact E.one x u hx
theorem El.row_take (xs : List α) (k : Nat) : (E.row xs).take (k * E.sz) = E.row (xs.take k) := by
  by_cases hk : k ≤ xs.length
  · conv => lhs; rw [← List.take_append_drop k xs, E.row_append]
    rw [List.take_left']
    rw [E.row_length, List.length_take, Nat.min_eq_left hk]
  · rw [List.take_of_length_le (by rw [E.row_length]; exact Nat.mul_le_mul_right _ (by omega)), List.take_of_length_le (by omega)]
theorem El.row_drop (xs : List α) (k : Nat) : (E.row xs).drop (k * E.sz) = E.row (xs.drop k) := by
  by_cases hk : k ≤ xs.length
  · conv => lhs; rw [← List.take_append_drop k xs, E.row_append]
    rw [List.drop_left']
    rw [E.row_length, List.length_take, Nat.min_eq_left hk]
  · rw [List.drop_eq_nil_of_le (by rw [E.row_length]; exact Nat.mul_le_mul_right _ (by omega)), List.drop_eq_nil_of_le (by omega)]; rfl
end

/-! ### A slice that reads as a list: below block B -/
def RdAt {α : Type} (E : El α) (B : Nat) (w : World) (b off : Nat) (xs : List α) : Prop :=
  b < B ∧ ∀ i x, xs[i]? = some x → ∀ j u, (E.cs x)[j]? = some u → w.cell? ⟨b, off + i * E.sz + j, none⟩ = some u
def Rd {α : Type} (E : El α) (B : Nat) (w : World) (A : Option Addr) (xs : List α) : Prop :=
  xs = [] ∨ ∃ b off, A = some ⟨b, off, none⟩ ∧ RdAt E B w b off xs

section
variable {α : Type} {E : El α} {B B' : Nat} {w w' : World} {A : Option Addr} {xs : List α} {b off : Nat}
theorem Rd.nil_ : Rd E B w A [] := .inl rfl
theorem Rd.at_ (h : Rd E B w A xs) {i : Nat} (hi : i < xs.length) : ∃ b off, A = some ⟨b, off, none⟩ ∧ RdAt E B w b off xs := by
  rcases h with rfl | h
  · simp at hi
  · exact h
theorem RdAt.below (h : RdAt E B w b off xs) (hb : Below B w w') : RdAt E B w' b off xs :=
  ⟨h.1, fun i x hx j u hu => (hb.cell (p := ⟨b, _, none⟩) h.1).trans (h.2 i x hx j u hu)⟩
theorem Rd.below (h : Rd E B w A xs) (hb : Below B w w') : Rd E B w' A xs :=
  h.imp id fun ⟨b, off, e, h⟩ => ⟨b, off, e, h.below hb⟩
theorem RdAt.more (h : RdAt E B w b off xs) (hB : B ≤ B') : RdAt E B' w b off xs := ⟨Nat.lt_of_lt_of_le h.1 hB, h.2⟩
theorem Rd.more (h : Rd E B w A xs) (hB : B ≤ B') : Rd E B' w A xs := h.imp id fun ⟨b, off, e, h⟩ => ⟨b, off, e, h.more hB⟩
/-- seen from a later world -/
theorem Rd.ext (h : Rd E w.heap.size w A xs) (hb : Ext w w') : Rd E w'.heap.size w' A xs := (h.below hb).more hb.size
theorem RdAt.ext (h : RdAt E w.heap.size w b off xs) (hb : Ext w w') : RdAt E w'.heap.size w' b off xs := (h.below hb).more hb.size

theorem Rd.drew (h : Rd E B w A xs) : Rd E B w.drew A xs := h
theorem RdAt.drop (h : RdAt E B w b off xs) (k : Nat) : RdAt E B w b (off + k * E.sz) (xs.drop k) :=
  ⟨h.1, fun i x hx j u hu => by
    rw [List.getElem?_drop] at hx
    have := h.2 (k + i) x hx j u hu
    rw [Nat.add_mul] at this
    rw [show off + k * E.sz + i * E.sz + j = off + (k * E.sz + i * E.sz) + j by omega]
    exact this⟩
theorem RdAt.take (h : RdAt E B w b off xs) (k : Nat) : RdAt E B w b off (xs.take k) :=
  ⟨h.1, fun i x hx j u hu => by
    rw [List.getElem?_take] at hx
    split at hx
    · exact h.2 i x hx j u hu
    · cases hx⟩
theorem Rd.take (h : Rd E B w A xs) (k : Nat) : Rd E B w A (xs.take k) := by
  rcases h with rfl | ⟨b, off, e, h⟩
  · simp [Rd]
  · exact .inr ⟨b, off, e, h.take k⟩
/-- a cut 'l[k:]' as the walk writes it -/
theorem Rd.cut (h : Rd E B w A xs) {k c : Nat} (hc : xs.length ≤ c) : Rd E B w (if c = k then A else A.map (·.add (k * E.sz))) (xs.drop k) := by
  rcases h with rfl | ⟨b, off, rfl, h⟩
  · simp [Rd]
  · by_cases hk : k < xs.length
    · rw [if_neg (by omega)]
      refine .inr ⟨b, off + k * E.sz, ?_, h.drop k⟩
      simp only [Option.map_some, Addr.add]
      split
      · rename_i h0; rw [h0]; rfl
      · rfl
    · exact .inl (List.drop_eq_nil_of_le (by omega))
theorem RdAt.cut (h : RdAt E B w b off xs) {k c : Nat} (hc : xs.length ≤ c) : Rd E B w (if c = k then some ⟨b, off, none⟩ else some ⟨b, off + k * E.sz, none⟩) (xs.drop k) := by
  by_cases hk : k < xs.length
  · rw [if_neg (by omega)]
    exact .inr ⟨b, off + k * E.sz, rfl, h.drop k⟩
  · exact .inl (List.drop_eq_nil_of_le (by omega))
theorem RdAt.cut1 (h : RdAt E B w b off xs) {c : Nat} (hc : xs.length ≤ c) : Rd E B w (if c = 1 then some ⟨b, off, none⟩ else some ⟨b, off + E.sz, none⟩) (xs.drop 1) := by
  have := h.cut (k := 1) hc
  rwa [Nat.one_mul] at this
/-- cells of all the row, in one list: for append, copy -/
theorem RdAt.cells (h : RdAt E B w b off xs) : ∀ j u, (E.row xs)[j]? = some u → w.cell? ((⟨b, off, none⟩ : Addr).add j) = some u := by
  intro j u hu
  have hj : j < (E.row xs).length := (List.getElem?_eq_some_iff.1 hu).1
  rw [E.row_length] at hj
  have hp := E.pos
  have hi : j / E.sz < xs.length := Nat.div_lt_of_lt_mul (by rw [Nat.mul_comm]; exact hj)
  have hm : j % E.sz < E.sz := Nat.mod_lt _ hp
  have hx : xs[j / E.sz]? = some xs[j / E.sz] := List.getElem?_eq_getElem hi
  have hcs : (E.cs xs[j / E.sz])[j % E.sz]? = some ((E.cs xs[j / E.sz])[j % E.sz]'(by rw [E.len]; exact hm)) := List.getElem?_eq_getElem _
  have e : j / E.sz * E.sz + j % E.sz = j := Nat.div_add_mod' _ _
  have h1 := E.row_get xs _ _ hx _ _ hcs
  have h2 := h.2 _ _ hx _ _ hcs
  rw [e] at h1
  rw [hu] at h1
  rw [h1]
  rw [Addr.add_lit, show off + j = off + j / E.sz * E.sz + j % E.sz by omega]
  exact h2
/-- a row of the call's own reads as its list -/
theorem rd_of_own {base : Nat} {e : TypeId} {v : Value} (h : w.ownsRow base e E.sz v xs.length (E.row xs)) :
    ∃ A c, v = .slice A xs.length c ∧ Rd E w.heap.size w A xs ∧ xs.length ≤ c ∧ c ≤ maxLen := by
  rcases h.2 with ⟨rfl, h0⟩ | ⟨g, cap, cur, rfl, hb, hg, hnc, hcm, hsz, hcur⟩
  · have : xs = [] := List.eq_nil_of_length_eq_zero h0
    subst this
    exact ⟨none, 0, rfl, .inl rfl, Nat.le_refl _, by simp [maxLen]⟩
  · refine ⟨_, cap, rfl, .inr ⟨g, 0, rfl, (Array.getElem?_eq_some_iff.1 hg).1, fun i x hx j u hu => ?_⟩, hnc, hcm⟩
    have h1 := E.row_get xs i x hx j u hu
    have h2 := h.cells (g := g) rfl _ _ h1
    rw [Addr.add_lit] at h2
    rw [← h2]
    congr 2
    omega
end

/-! ### The elements of this program -/
def pairE : El (Int × Int) := ⟨fun x => [.int .i64 x.1, .int .i64 x.2], 2, fun _ => rfl, by decide, fun x u hu => by simp at hu; rcases hu with rfl | rfl <;> rfl⟩
def intE : El Int := ⟨fun x => [.int .i64 x], 1, fun _ => rfl, by decide, fun x u hu => by simp at hu; subst hu; rfl⟩
def strE : El ByteArray := ⟨fun x => [.string x], 1, fun _ => rfl, by decide, fun x u hu => by simp at hu; subst hu; rfl⟩

section
variable {B : Nat} {w : World} {b off : Nat}
theorem RdAt.pair {xs : List (Int × Int)} (h : RdAt pairE B w b off xs) {i : Nat} {p q : Int} (hx : xs[i]? = some (p, q)) :
    w.cell? ⟨b, off + i * 2, none⟩ = some (.int .i64 p) ∧ w.cell? ⟨b, off + i * 2 + 1, none⟩ = some (.int .i64 q) :=
  ⟨h.2 i _ hx 0 _ rfl, h.2 i _ hx 1 _ rfl⟩
theorem RdAt.pair0 {xs : List (Int × Int)} (h : RdAt pairE B w b off xs) {p q : Int} (hx : xs[0]? = some (p, q)) :
    w.cell? ⟨b, off, none⟩ = some (.int .i64 p) ∧ w.cell? ⟨b, off + 1, none⟩ = some (.int .i64 q) := by
  have := h.pair hx
  simpa using this
theorem RdAt.int {xs : List Int} (h : RdAt intE B w b off xs) {i : Nat} {p : Int} (hx : xs[i]? = some p) :
    w.cell? ⟨b, off + i, none⟩ = some (.int .i64 p) := by
  have := h.2 i _ hx 0 _ rfl
  simpa [intE] using this
theorem RdAt.str {xs : List ByteArray} (h : RdAt strE B w b off xs) {i : Nat} {p : ByteArray} (hx : xs[i]? = some p) :
    w.cell? ⟨b, off + i, none⟩ = some (.string p) := by
  have := h.2 i _ hx 0 _ rfl
  simpa [strE] using this
theorem RdAt.int0 {xs : List Int} (h : RdAt intE B w b off xs) {p : Int} (hx : xs[0]? = some p) : w.cell? ⟨b, off, none⟩ = some (.int .i64 p) := h.int hx
theorem RdAt.str0 {xs : List ByteArray} (h : RdAt strE B w b off xs) {p : ByteArray} (hx : xs[0]? = some p) : w.cell? ⟨b, off, none⟩ = some (.string p) := h.str hx
end
theorem get_some {α : Type} {xs : List α} {i : Nat} (h : i < xs.length) : ∃ x, xs[i]? = some x := ⟨_, List.getElem?_eq_getElem h⟩
theorem cons_of_get {α : Type} {xs : List α} {x : α} (h : xs[0]? = some x) : xs = x :: xs.drop 1 := by
  cases xs with
  | nil => simp at h
  | cons y ys => simp at h; subst h; rfl
theorem take_snoc {α : Type} {xs : List α} {k : Nat} {x : α} (h : xs[k]? = some x) : xs.take (k + 1) = xs.take k ++ [x] := by
  rw [List.take_add_one, h]; rfl
end Go.Proofs.YtlianjnmfgakkaaDoor
