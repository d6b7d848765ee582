/- order.Sort returns, in new memory, the stable sort of a row. -/
import Derived.Test.YtepgpiolhiidiaaGraM
namespace Go.Proofs.Ytepgpiolhiidiaa
open Go.RowKit

/-- slices as elements -/
def slE : El (Option Addr × Nat × Nat) := ⟨fun x => [.slice x.1 x.2.1 x.2.2], 1, fun _ => rfl, by decide, fun x u hu => by simp at hu; subst hu; rfl⟩
def hv (x : Option Addr × Nat × Nat) : Value := .slice x.1 x.2.1 x.2.2
theorem RdAt.sl {B : Nat} {w : World} {b off : Nat} {xs : List (Option Addr × Nat × Nat)} (h : RdAt slE B w b off xs) {i : Nat} {A : Option Addr} {n c : Nat} (hx : xs[i]? = some (A, n, c)) :
    w.cell? ⟨b, off + i, none⟩ = some (.slice A n c) := by
  have := h.2 i _ hx 0 _ rfl
  simpa [slE] using this

/-- the rows that slices lead to -/
def Rows_ {α : Type} (E : El α) (e : TypeId) (base : Nat) (w : World) (vs : List (Option Addr × Nat × Nat)) (xss : List (List α)) : Prop :=
  vs.length = xss.length ∧ ∀ (i : Nat) h xs, vs[i]? = some h → xss[i]? = some xs → Own E e base w (hv h) xs

theorem Rows_.ext {α : Type} {E : El α} {e : TypeId} {base : Nat} {w w' : World} {vs : List (Option Addr × Nat × Nat)} {xss : List (List α)} (h : Rows_ E e base w vs xss) (hb : Ext w w') : Rows_ E e base w' vs xss :=
  ⟨h.1, fun i x xs h1 h2 => (h.2 i x xs h1 h2).ext hb⟩
theorem Rows_.mapw {α : Type} {E : El α} {e : TypeId} {base : Nat} {w w' : World} {vs : List (Option Addr × Nat × Nat)} {xss : List (List α)} (h : Rows_ E e base w vs xss)
    (hk : ∀ v xs, Own E e base w v xs → Own E e base w' v xs) : Rows_ E e base w' vs xss := ⟨h.1, fun i x xs h1 h2 => hk _ _ (h.2 i x xs h1 h2)⟩
theorem Rows_.snoc {α : Type} {E : El α} {e : TypeId} {base : Nat} {w : World} {vs : List (Option Addr × Nat × Nat)} {xss : List (List α)} {v : Option Addr × Nat × Nat} {xs : List α} (h : Rows_ E e base w vs xss)
    (hv : Own E e base w (hv v) xs) : Rows_ E e base w (vs ++ [v]) (xss ++ [xs]) := by
  refine ⟨by simp [h.1], fun i x ys h1 h2 => ?_⟩
  by_cases hi : i < vs.length
  · rw [List.getElem?_append_left hi] at h1
    rw [List.getElem?_append_left (by rw [← h.1]; exact hi)] at h2
    exact h.2 i x ys h1 h2
  · rw [List.getElem?_append_right (by omega)] at h1
    rw [List.getElem?_append_right (by rw [← h.1]; omega)] at h2
    have hi0 : i - vs.length = 0 := by
      have := (List.getElem?_eq_some_iff.1 h1).1
      simpa using this
    rw [← h.1, hi0] at h2
    rw [hi0] at h1
    simp at h1 h2
    subst h1 h2
    exact hv
theorem Rows_.alloc {α : Type} {E : El α} {e : TypeId} {base : Nat} {w : World} {vs : List (Option Addr × Nat × Nat)} {xss : List (List α)} (h : Rows_ E e base w vs xss) (o : Obj) : Rows_ E e base (w.alloc o) vs xss := h.mapw fun _ _ hy => hy.alloc o
theorem Rows_.app {α α' : Type} {E : El α} {e : TypeId} {base : Nat} {w w' : World} {vs : List (Option Addr × Nat × Nat)} {xss : List (List α)} {E' : El α'} {e' : TypeId} {base' : Nat} {s : Value} {ys : List α'}
    (h : Rows_ E e base w vs xss) (ho : Own E' e' base' w s ys) (hg : w.grownBy w' s.ownBlock) (hne : e ≠ e') : Rows_ E e base w' vs xss := h.mapw fun _ _ hy => hy.app ho hg hne
theorem rows_nil {α : Type} {E : El α} {e : TypeId} {base : Nat} {w : World} : Rows_ E e base w [] [] := ⟨rfl, fun i x xs h1 _ => by simp at h1⟩

section
variable {α : Type} {lt : α → α → Bool}
variable (lt) in
/-- the rows two by two -/
def passR : List (List α) → List (List α)
  | [] => []
  | [a] => [a]
  | a :: b :: r => mrg lt a b :: passR r
theorem passR_length : ∀ xss : List (List α), (passR lt xss).length = (xss.length + 1) / 2
  | [] => by simp [passR]
  | [a] => by simp [passR]
  | a :: b :: r => by simp only [passR, List.length_cons, passR_length r]; omega
variable (lt) in
/-- sorted rows, which together have each class as it stood -/
def Good (xs : List α) (xss : List (List α)) : Prop := (∀ r ∈ xss, srt lt r) ∧ (∀ z, xss.flatten.filter (eqv lt z) = xs.filter (eqv lt z)) ∧ xss.flatten.length = xs.length
theorem passR_srt (h : SWO lt) : ∀ xss : List (List α), (∀ r ∈ xss, srt lt r) → ∀ r ∈ passR lt xss, srt lt r
  | [], _, r, hr => by simp [passR] at hr
  | [a], hs, r, hr => hs r (by simpa [passR] using hr)
  | a :: b :: rest, hs, r, hr => by
    rcases List.mem_cons.1 hr with rfl | hr
    · exact srt_mrg h _ _ (hs a (by simp)) (hs b (by simp))
    · exact passR_srt h rest (fun r hr => hs r (by simp [hr])) r hr
theorem passR_filter (h : SWO lt) (z : α) : ∀ xss : List (List α), (∀ r ∈ xss, srt lt r) → (passR lt xss).flatten.filter (eqv lt z) = xss.flatten.filter (eqv lt z)
  | [], _ => by simp [passR]
  | [a], _ => by simp [passR]
  | a :: b :: rest, hs => by
    simp only [passR, List.flatten_cons, List.filter_append]
    rw [filter_mrg h z _ _ (hs a (by simp)) (hs b (by simp)), passR_filter h z rest (fun r hr => hs r (by simp [hr])), List.append_assoc]
theorem passR_flat : ∀ xss : List (List α), (passR lt xss).flatten.length = xss.flatten.length
  | [] => by simp [passR]
  | [a] => by simp [passR]
  | a :: b :: rest => by
    simp only [passR, List.flatten_cons, List.length_append, length_mrg, passR_flat rest]; omega
theorem good_pass (h : SWO lt) {xs : List α} {xss : List (List α)} (g : Good lt xs xss) : Good lt xs (passR lt xss) :=
  ⟨passR_srt h _ g.1, fun z => (passR_filter h z _ g.1).trans (g.2.1 z), (passR_flat _).trans g.2.2⟩
theorem good_ones {xs : List α} : Good lt xs (xs.map fun x => [x]) := by
  have e : (xs.map fun x => [x]).flatten = xs := by induction xs with
    | nil => rfl
    | cons x xs ih => simp [ih]
  refine ⟨fun r hr => ?_, fun z => by rw [e], by rw [e]⟩
  obtain ⟨x, _, rfl⟩ := List.mem_map.1 hr
  exact List.pairwise_singleton _ _
theorem good_one (h : SWO lt) {xs r : List α} (g : Good lt xs [r]) : r = isort lt xs :=
  isort_of h (g.1 r (by simp)) (fun z => by have := g.2.1 z; simpa using this)
theorem good_none {xs : List α} (g : Good lt xs []) : xs = [] := List.eq_nil_of_length_eq_zero (by have := g.2.2; simpa using this.symm)
theorem good_len {xs : List α} {xss : List (List α)} (g : Good lt xs xss) : ∀ r ∈ xss, r.length ≤ xs.length := by
  intro r hr
  rw [← g.2.2]
  exact (List.sublist_flatten_of_mem hr).length_le
end

def bothF {α : Type} (lt : α → α → Bool) (xss : List (List α)) (k : Nat) : List α :=
  if k + 1 = xss.length then xss.getD k [] else mrg lt (xss.getD k []) (xss.getD (k + 1) [])

theorem passR_get {α : Type} {lt : α → α → Bool} : ∀ (xss : List (List α)) (i : Nat), 2 * i < xss.length → (passR lt xss)[i]? = some (bothF lt xss (2 * i))
  | [], i, h => by simp at h
  | [a], i, h => by
    have : i = 0 := by simp at h; omega
    subst this
    simp [passR, bothF]
  | a :: b :: r, 0, h => by simp [passR, bothF]
  | a :: b :: r, i + 1, h => by
    have ih := passR_get (lt := lt) r i (by simp at h; omega)
    have e : bothF lt (a :: b :: r) (2 * (i + 1)) = bothF lt r (2 * i) := by
      unfold bothF
      have e1 : 2 * (i + 1) = 2 * i + 2 := by omega
      rw [e1]
      simp only [List.length_cons]
      have : (2 * i + 2 + 1 = r.length + 1 + 1) = (2 * i + 1 = r.length) := by simp
      simp only [this]
      rfl
    rw [e]
    simpa [passR] using ih

set_option maxHeartbeats 2000000 in
theorem both_Edge (base B0 B1 k rn rc : Nat) (kI : Int) (hkI : kI = (k : Int)) (R : Option Addr) (vs : List (Option Addr × Nat × Nat)) (xss : List (List (Int × Int × Int))) (w : World)
    (h1 : w.cell? ⟨B1, 0, none⟩ = some (.slice R rn rc)) (h0 : w.cell? ⟨B0, 0, none⟩ = some (.func (.func 44) #[] #[])) (hR : Rd slE w.heap.size w R vs) (hn : rn = vs.length)
    (hruns : Rows_ edgeE 50 base w vs xss) (hk : k < rn) (hkb : rn ≤ 1000000) (hbase : base ≤ w.heap.size) (hsz : ∀ xs ∈ xss, xs.length ≤ 1000000) :
    Calls Try.prog 69 #[.int .i64 kI, .pointer (some ⟨B1, 0, none⟩), .pointer (some ⟨B0, 0, none⟩)] w fun e w' =>
      ∃ A n c, e = .returned (.slice A n c) ∧ Own edgeE 50 base w' (.slice A n c) (bothF ltE xss k) ∧ Ext w w' := by
  subst hkI
  have hb1 := World.block_lt_of_cell? w _ h1
  have hb0 := World.block_lt_of_cell? w _ h0
  simp only at hb1 hb0
  obtain ⟨b, off, rfl, hra⟩ := hR.at_ (i := k) (by omega)
  have hb := hra.1
  obtain ⟨⟨A, n, c⟩, hv0⟩ := get_some (xs := vs) (i := k) (by omega)
  obtain ⟨xs, hx0⟩ := get_some (xs := xss) (i := k) (by rw [← hruns.1]; omega)
  have hc0 := hra.sl hv0
  have ho0 := hruns.2 k _ _ hv0 hx0
  by_cases hlast : k + 1 = rn
  · have e0 : bothF ltE xss k = xs := by unfold bothF; rw [if_pos (by rw [← hruns.1]; omega)]; simp [hx0]
    have hl : ((k : Int) + 1 == (rn : Int)) = true := by simp; omega
    have hk' : (k : Int) < (rn : Int) := by omega
    replace e0 := hide e0
    replace hra := hide hra
    replace hruns := hide hruns
    replace ho0 := hide ho0
    replace hsz := hide hsz
    replace hn := hide hn
    replace hv0 := hide hv0
    replace hx0 := hide hx0
    replace hR := hide hR
    clear hlast
    go_enter Try.func69, Try.ntmps69
    go_wp2
    go_ret
    exact ⟨A, n, c, rfl, by rw [e0.out]; exact ho0.out, Below.refl _ _⟩
  · obtain ⟨⟨A', n', c'⟩, hv1⟩ := get_some (xs := vs) (i := k + 1) (by omega)
    obtain ⟨ys, hx1⟩ := get_some (xs := xss) (i := k + 1) (by rw [← hruns.1]; omega)
    have hc1 := hra.sl hv1
    have ho1 := hruns.2 (k + 1) _ _ hv1 hx1
    have e0 : bothF ltE xss k = mrg ltE xs ys := by unfold bothF; rw [if_neg (by rw [← hruns.1]; omega)]; simp [hx0, hx1]
    have hl : ((k : Int) + 1 == (rn : Int)) = false := by simp; omega
    have hk' : (k : Int) < (rn : Int) := by omega
    have hk2 : (k : Int) + 1 < (rn : Int) := by omega
    have hxl := hsz xs (List.mem_of_getElem? hx0)
    have hyl := hsz ys (List.mem_of_getElem? hx1)
    rw [show off + (k + 1) = off + (k + 1) from rfl] at hc1
    obtain ⟨A2, c2, eA, rA, lA, _⟩ := ho0.rd
    obtain ⟨A3, c3, eB, rB, lB, _⟩ := ho1.rd
    injection eA with eA1 eA2 eA3
    injection eB with eB1 eB2 eB3
    simp only at eA1 eA2 eA3 eB1 eB2 eB3
    subst eA1 eA3 eB1 eB3
    replace eA2 := hide eA2
    replace eB2 := hide eB2
    replace rA := hide rA
    replace rB := hide rB
    have lA' : n ≤ c := by rw [eA2.out]; exact lA
    have lB' : n' ≤ c' := by rw [eB2.out]; exact lB
    have lA2 : n ≤ 1000000 := by rw [eA2.out]; exact hxl
    have lB2 : n' ≤ 1000000 := by rw [eB2.out]; exact hyl
    replace e0 := hide e0
    replace hra := hide hra
    replace hruns := hide hruns
    replace ho0 := hide ho0
    replace ho1 := hide ho1
    replace hsz := hide hsz
    replace hn := hide hn
    replace hv0 := hide hv0
    replace hx0 := hide hx0
    replace hv1 := hide hv1
    replace hx1 := hide hx1
    replace hR := hide hR
    clear hlast lA lB
    go_enter Try.func69, Try.ntmps69
    go_wp2
    have s1 : IntKind.i64.wrap ((k : Int) + 1) = (k : Int) + 1 := IntWalk.i64_in _ (by omega)
    have s2 : (0 : Int) ≤ (k : Int) + 1 := by omega
    have s3 : ((k : Int) + 1).toNat = k + 1 := by omega
    refine wp_region_mix (fun W => Below w.heap.size w W) [(0, true), (1, true), (2, true), (3, true), (4, true), (5, true), (6, true), (7, true), (8, true), (9, true), (10, false), (11, true)] (by kernel_rfl) (by kernel_rfl) (by kernel_rfl) (by kernel_rfl) (fun _ _ d _ _ h => by cases d <;> exact h) ?_ ?_
    · exact (Below.refl _ _).drew
    iterate 10
      apply mix_q rfl rfl
      · intro W hW
        have hcW := (bcell hW).1
        go_simp
        try exact rfl
      simp only [Act.put, List.setIfInBounds_toArray, List.set_cons_zero, List.set_cons_succ]
    refine mix_w rfl rfl (fun K hK => ?_)
    go_simp
    refine (merge_Edge A A' n n' c c' xs ys _ eA2.out eB2.out (rA.out.ext (Below.refl _ _).drew) (rB.out.ext (Below.refl _ _).drew) lA' lB' lA2 lB2).mono ?_
    rintro e w2 ⟨v, rfl, hown, hE⟩
    obtain ⟨A4, c4, rfl, -, -, -⟩ := hown.rd
    have hE' : Ext w w2 := (Below.refl _ w).drew.trans hE
    refine hK _ _ hE' ?_
    clear hK K
    try simp only [Act.put, List.setIfInBounds_toArray, List.set_cons_zero, List.set_cons_succ]
    iterate 1
      apply mix_q rfl rfl
      · intro W hW
        have hcW := (bcell hW).1
        go_simp
        try exact rfl
      simp only [Act.put, List.setIfInBounds_toArray, List.set_cons_zero, List.set_cons_succ]
    refine mix_nil ?_
    replace hown := hide hown
    go_wp2
    go_ret
    exact ⟨_, _, _, rfl, by rw [e0.out]; exact hown.out.base_le hbase, hE'⟩
end Go.Proofs.Ytepgpiolhiidiaa
