/- graph.from, asked, Out. -/
import Derived.Test.YtepgpiolhiidiaaGraI
namespace Go.Proofs.Ytepgpiolhiidiaa
open Go.RowKit

/-! ### Where the edges of a node begin, plainly -/
def cntI (xs : List (Int × Int × Int)) (v : Int) : Nat := xs.countP fun x => decide (x.1 < v)
theorem cntI_le (xs : List (Int × Int × Int)) (v : Int) : cntI xs v ≤ xs.length := List.countP_le_length
theorem strict_fst {xs : List (Int × Int × Int)} (h : Strict xs) : xs.Pairwise fun a b => a.1 ≤ b.1 := h.imp fun {a b} hab => by rw [ltE_iff] at hab; omega
theorem cut_fst : ∀ {xs : List (Int × Int × Int)} (v : Int), xs.Pairwise (fun a b => a.1 ≤ b.1) → (∀ x ∈ xs.take (cntI xs v), x.1 < v) ∧ (∀ x ∈ xs.drop (cntI xs v), v ≤ x.1)
  | [], v, _ => ⟨by simp, by simp⟩
  | x :: xs, v, h => by
    obtain ⟨h1, h2⟩ := List.pairwise_cons.1 h
    by_cases hx : x.1 < v
    · obtain ⟨i1, i2⟩ := cut_fst v h2
      have e : cntI (x :: xs) v = cntI xs v + 1 := by unfold cntI; rw [List.countP_cons_of_pos (by simpa using hx)]
      rw [e, List.take_succ_cons, List.drop_succ_cons]
      refine ⟨fun y hy => ?_, i2⟩
      rcases List.mem_cons.1 hy with rfl | hy
      · exact hx
      · exact i1 y hy
    · have e : cntI (x :: xs) v = 0 := by
        unfold cntI
        rw [List.countP_eq_zero]
        intro y hy
        rcases List.mem_cons.1 hy with rfl | hy
        · simpa using hx
        · have := h1 y hy
          simp
          omega
      rw [e]
      refine ⟨by simp, fun y hy => ?_⟩
      rw [List.drop_zero] at hy
      rcases List.mem_cons.1 hy with rfl | hy
      · omega
      · have := h1 y hy
        omega
def askV (v : Int) (x : Int × Int × Int) : Int := if x.1 < v then -1 else 1
theorem between_cnt {xs : List (Int × Int × Int)} (h : Strict xs) {v : Int} {k : Nat} (hk : Between (askV v) xs k) : k = cntI xs v := by
  obtain ⟨h1, h2, h3⟩ := hk
  obtain ⟨c1, c2⟩ := cut_fst v (strict_fst h)
  have hl := cntI_le xs v
  rcases Nat.lt_trichotomy k (cntI xs v) with hlt | he | hgt
  · obtain ⟨x, hx⟩ := get_some (xs := xs) (i := k) (by omega)
    have h4 := c1 x (List.mem_of_getElem? (i := k) (by rw [List.getElem?_take, if_pos hlt]; exact hx))
    have h5 := h3 x hx
    unfold askV at h5
    rw [if_pos h4] at h5
    omega
  · exact he
  · obtain ⟨x, hx⟩ := get_some (xs := xs) (i := k - 1) (by omega)
    have h4 := c2 x (List.mem_of_getElem? (i := k - 1 - cntI xs v) (by rw [List.getElem?_drop, show cntI xs v + (k - 1 - cntI xs v) = k - 1 by omega]; exact hx))
    have h5 := h2 x (by omega) hx
    unfold askV at h5
    rw [if_neg (by omega)] at h5
    omega
theorem cntI_mono (xs : List (Int × Int × Int)) {u v : Int} (h : u ≤ v) : cntI xs u ≤ cntI xs v := by
  unfold cntI
  refine List.countP_mono_left fun x _ hx => ?_
  have : x.1 < u := by simpa using hx
  simp
  omega
/-- what lies between is the node's own -/
theorem out_part {xs : List (Int × Int × Int)} (h : Strict xs) (v : Int) : (xs.drop (cntI xs v)).take (cntI xs (v + 1) - cntI xs v) = xs.filter fun x => decide (x.1 = v) := by
  have hs := strict_fst h
  obtain ⟨a1, a2⟩ := cut_fst v hs
  obtain ⟨b1, b2⟩ := cut_fst (v + 1) hs
  have hm := cntI_mono xs (show v ≤ v + 1 by omega)
  have e : xs = xs.take (cntI xs v) ++ ((xs.drop (cntI xs v)).take (cntI xs (v + 1) - cntI xs v) ++ xs.drop (cntI xs (v + 1))) := by
    have e1 : (xs.drop (cntI xs v)).drop (cntI xs (v + 1) - cntI xs v) = xs.drop (cntI xs (v + 1)) := by rw [List.drop_drop, show cntI xs v + (cntI xs (v + 1) - cntI xs v) = cntI xs (v + 1) by omega]
    rw [← e1, List.take_append_drop, List.take_append_drop]
  have m1 : ∀ x ∈ (xs.drop (cntI xs v)).take (cntI xs (v + 1) - cntI xs v), x.1 = v := by
    intro x hx
    have g1 := a2 x (List.mem_of_mem_take hx)
    have g2 : x ∈ xs.take (cntI xs (v + 1)) := by
      obtain ⟨i, hi⟩ := List.mem_iff_getElem?.1 hx
      rw [List.getElem?_take] at hi
      split at hi
      · rename_i hlt
        rw [List.getElem?_drop] at hi
        exact List.mem_of_getElem? (i := cntI xs v + i) (by rw [List.getElem?_take, if_pos (by omega)]; exact hi)
      · cases hi
    have g3 := b1 x g2
    omega
  conv => rhs; rw [e]
  rw [List.filter_append, List.filter_append, List.filter_eq_nil_iff.2 (fun x hx => by have := a1 x hx; simp; omega), List.filter_eq_self.2 (fun x hx => by simpa using m1 x hx), List.filter_eq_nil_iff.2 (fun x hx => by have := b2 x hx; simp; omega)]
  simp
/-! ### Walks -/
theorem enter_ask (args : Array Value) (w : World) : (callFunc 63 args).run Try.prog w = .ok (.enter 63 args) w := enters_of Try.func63 (by kernel_rfl) rfl args w
set_option maxHeartbeats 1000000 in
theorem askFun_any (n i v : Int) (A : Option Addr) (m c : Nat) (g : Nat) (w : World) (hb : g < w.heap.size) (hc : w.cell? ⟨g, 0, none⟩ = some (.int .i64 n)) :
    Calls Try.prog 63 #[.int .i64 i, .int .i64 v, .pointer (some ⟨g, 0, none⟩)] w fun e w' => e = .returned (.bool (nodeIn n v)) ∧ w = w' := by
  by_cases h : 0 ≤ v
  · have hv : nodeIn n v = decide (v < n) := by unfold nodeIn; rw [decide_eq_true h]; rfl
    replace hv := hide hv
    go_enter Try.func63, Try.ntmps63
    go_wp2
    go_ret
    exact ⟨ret_bool hv.out.symm, rfl⟩
  · have hv : nodeIn n v = false := by unfold nodeIn; rw [decide_eq_false h]; rfl
    replace hv := hide hv
    go_enter Try.func63, Try.ntmps63
    go_wp2
    go_ret
    exact ⟨ret_bool hv.out.symm, rfl⟩
/-- a function that is handed on, asked of each number of a row; it leaves memory as it is -/
def HoldsI (f : FuncId) (cb : Array Value) (H : Nat → Int → Bool) (xs : List Int) (w : World) : Prop :=
  (∀ (args : Array Value) (W : World), (callFunc f args).run Try.prog W = .ok (.enter f args) W) ∧
  ∀ (i : Nat) (a : Int), xs[i]? = some a → Calls Try.prog f (#[.int .i64 (i : Int), .int .i64 a] ++ cb) w fun e W' => e = .returned (.bool (H i a)) ∧ w = W'
set_option maxHeartbeats 1000000 in
theorem all_Int (A : Option Addr) (n c : Nat) (xs : List Int) (f : FuncId) (cb : Array Value) (H : Nat → Int → Bool) (w : World) (hn : n = xs.length) (h : Rd intE w.heap.size w A xs) (hb : n ≤ 1000000) (hf : HoldsI f cb H xs w) :
    Calls Try.prog 62 #[.slice A n c, .func (.func f) #[] cb] w fun e w' => e = .returned (.bool (allH H xs)) ∧ Ext w w' := by
  replace hn := hide hn
  replace h := hide h
  obtain ⟨henter, hask⟩ := hf
  replace hask := hide hask
  go_enter Try.func62, Try.ntmps62
  go_wp2
  go_loopw [9] (fun i wr => ∃ k : Nat, k ≤ n ∧ i = .int .i64 k ∧ Hid (∀ j x, j < k → xs[j]? = some x → H j x = true) ∧ Hid (wr = w)) (fun i _ => n - (intOf i).toNat)
  case atStart => exact ⟨0, Nat.zero_le _, rfl, hide (fun j x hj => by omega), hide rfl⟩
  case round =>
    obtain ⟨k, hk, rfl, hall, hw⟩ := hrel
    obtain rfl := hw.out
    by_cases hlt : k < n
    · have hlt' : (k : Int) < (n : Int) := by omega
      obtain ⟨b, off, rfl, hra⟩ := h.out.at_ (i := k) (by rw [← hn.out]; exact hlt)
      have hbr := hra.1
      obtain ⟨p1, hx⟩ := get_some (i := k) (by rw [← hn.out]; exact hlt)
      have hx1 := hra.int hx
      replace hx := hide hx
      replace hra := hide hra
      go_wp2_with fail
      refine (hask.out k p1 hx.out).mono ?_
      rintro e w2 ⟨rfl, rfl⟩
      cases hh : H k p1 with
      | true =>
        have hall2 : Hid (∀ j x, j < k + 1 → xs[j]? = some x → H j x = true) := hide (fun j x hj hx' => by
          by_cases hjk : j = k
          · subst hjk
            rw [hx.out] at hx'
            injection hx' with hx'
            rw [← hx']; exact hh
          · exact hall.out j x (by omega) hx')
        go_wp2
        refine ⟨?_, ?_⟩
        · first
            | exact ⟨k + 1, by omega, by go_num, hall2, hw⟩
            | ((repeat apply Exists.intro); exact ⟨⟨k + 1, by omega, by go_num, hall2, hw⟩, rfl⟩)
        · first | (simp [intOf, lenV]; omega) | (simp [intOf]; omega) | (simp [intOf]; done)
      | false =>
        have hv : Hid (allH H xs = false) := hide (allH_false hx.out hh)
        go_wp2
        go_ret
        exact ⟨ret_bool hv.out.symm, Below.refl _ _⟩
    · have hlt' : ¬ (k : Int) < (n : Int) := by omega
      have hv : Hid (allH H xs = true) := hide (allH_true (k := k) (by rw [← hn.out]; omega) (fun i x hi hx => hall.out i x hi hx))
      go_wp2
      go_ret
      exact ⟨ret_bool hv.out.symm, Below.refl _ _⟩
def askE (n : Int) (xs : List (Int × Int × Int)) (vs : List Int) : Int := if rightG n xs = true then (if vs.all (nodeIn n) = true then 0 else 2) else 150
set_option maxHeartbeats 1000000 in
theorem asked_any (n : Int) (A : Option Addr) (m c : Nat) (xs : List (Int × Int × Int)) (B : Option Addr) (k d : Nat) (vs : List Int) (w : World) (h : Rd edgeE w.heap.size w A xs) (hm : m = xs.length) (hl : m ≤ 1000000) (h2 : Rd intE w.heap.size w B vs) (hk : k = vs.length) (hkl : k ≤ 1000000) :
    Calls Try.prog 45 #[.agg #[.int .i64 n, .slice A m c], .slice B k d] w fun e w' => e = .returned (.int .i64 (askE n xs vs)) ∧ Ext w w' := by
  obtain ⟨q, hq⟩ : ∃ q, q = askE n xs vs := ⟨_, rfl⟩
  rw [← hq]
  replace h := hide h
  replace hm := hide hm
  replace h2 := hide h2
  replace hk := hide hk
  replace hq := hide hq
  go_enter Try.func45, Try.ntmps45
  go_upto_region 1 with fail
  obtain ⟨w0, hw0⟩ : ∃ w0, w0 = w.alloc (.cells #[.int .i64 n, .slice A m c] 24) := ⟨_, rfl⟩
  rw [← hw0]
  have hE0 : Ext w w0 := by rw [hw0]; exact (Below.refl _ _).alloc (Nat.le_refl _) _
  have X1 : BoxG w0 w.heap.size n A m c := by rw [hw0]; exact BoxN.new w _ _
  clear hw0
  obtain ⟨pg, hpg⟩ : ∃ b, b = w.heap.size := ⟨_, rfl⟩
  rw [← hpg] at X1 ⊢
  clear hpg
  have k10 := X1.cell 0 (v := .int .i64 n) rfl
  have k11 := X1.cell 1 (v := .slice A m c) rfl
  have s1 := X1.lt
  go_wp2_with fail
  refine (check_any n A m c xs _ (h.out.ext hE0) hm.out hl).mono ?_
  rintro e w1 ⟨rfl, hE⟩
  replace X1 := X1.ext hE
  have hB := hE0.trans (hE.mono hE0.size)
  clear k10 k11 s1 hE
  cases hr : rightG n xs with
  | false =>
    rw [chkG_no hr]
    have hv : Hid (q = 150) := hide (by rw [hq.out]; unfold askE; rw [hr]; rfl)
    replace hr := hide hr
    go_wp2
    go_ret
    exact ⟨ret_int hv.out.symm, hB⟩
  | true =>
    rw [chkG_yes hr]
    have hv : Hid (q = if vs.all (nodeIn n) = true then 0 else 2) := hide (by rw [hq.out]; unfold askE; rw [hr]; rfl)
    replace hr := hide hr
    have k10 := X1.cell 0 (v := .int .i64 n) rfl
    have k11 := X1.cell 1 (v := .slice A m c) rfl
    have s1 := X1.lt
    go_wp2_with fail
    refine (all_Int B k d vs 63 #[.pointer (some ⟨pg, 0, none⟩)] (fun _ v => nodeIn n v) _ hk.out (h2.out.ext hB) hkl ⟨enter_ask, fun i a _ => askFun_any n i a A m c pg _ s1 k10⟩).mono ?_
    rintro e w2 ⟨rfl, hE⟩
    rw [allH_const]
    have hB2 := hB.trans (hE.mono hB.size)
    clear k10 k11 s1 hE
    cases hall : vs.all (nodeIn n) with
    | true =>
      have hv2 : Hid (q = 0) := hide (by rw [hv.out, hall]; rfl)
      replace hall := hide hall
      clear hv
      go_wp2
      go_ret
      exact ⟨ret_int hv2.out.symm, hB2⟩
    | false =>
      have hv2 : Hid (q = 2) := hide (by rw [hv.out, hall]; rfl)
      replace hall := hide hall
      clear hv
      go_wp2
      go_ret
      exact ⟨ret_int hv2.out.symm, hB2⟩
end Go.Proofs.Ytepgpiolhiidiaa
