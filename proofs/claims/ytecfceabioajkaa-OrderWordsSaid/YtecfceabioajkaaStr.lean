/- cmp.Less, slices.Index, Contains and IsSorted at texts. -/
import Derived.Test.YtecfceabioajkaaLaw
namespace Go.Proofs.Ytecfceabioajkaa
open Go.RowKit

set_option maxHeartbeats 400000 in
theorem less_str (a b : ByteArray) (w : World) :
    Calls Try.prog 42 #[.string a, .string b] w fun e w' => e = .returned (.bool (ltS a b)) ∧ Ext w w' := by
  go_enter Try.func42, Try.ntmps42
  go_wp2_with (go_at_call 40; refine (nan_str _ _).mono ?_; rintro e w' ⟨rfl, rfl⟩)
  go_ret
  exact ⟨rfl, Below.refl _ _⟩

theorem loop_toList (bs : ByteArray) : ∀ (n i : Nat) (r : List UInt8), n = bs.size - i → ByteArray.toList.loop bs i r = r.reverse ++ bs.data.toList.drop i
  | 0, i, r, h => by
    unfold ByteArray.toList.loop
    rw [if_neg (by omega), List.drop_eq_nil_of_le (by have e : bs.data.toList.length = bs.size := rfl; omega), List.append_nil]
  | n + 1, i, r, h => by
    unfold ByteArray.toList.loop
    rw [if_pos (by omega), loop_toList bs n (i + 1) _ (by omega), List.reverse_cons, List.append_assoc]
    congr 1
    have hi : i < bs.data.toList.length := by have e : bs.data.toList.length = bs.size := rfl; omega
    rw [List.drop_eq_getElem_cons hi]
    simp [ByteArray.get!, Array.getElem!_eq_getD]
    rw [Array.getElem?_eq_getElem (by simpa using hi)]
    rfl
theorem toList_data (a : ByteArray) : a.toList = a.data.toList := by
  unfold ByteArray.toList
  rw [loop_toList a (a.size - 0) 0 [] rfl]
  simp
theorem toList_inj {a b : ByteArray} (h : a.toList = b.toList) : a = b := by
  rw [toList_data, toList_data] at h
  exact ByteArray.ext (Array.toList_inj.1 h)

set_option maxHeartbeats 1000000 in
theorem index_str (A : Option Addr) (n c : Nat) (xs : List ByteArray) (s : ByteArray) (w : World) (hn : n = xs.length) (h : Rd strE w.heap.size w A xs) (hb : n ≤ 1000000) :
    Calls Try.prog 41 #[.slice A n c, .string s] w fun e w' => ∃ z : Int, e = .returned (.int .i64 z) ∧ Hid ((0 ≤ z) = (s ∈ xs)) ∧ Ext w w' := by
  replace hn := hide hn
  replace h := hide h
  go_enter Try.func41, Try.ntmps41
  go_wp2
  go_loopw [8] (fun i wr => ∃ k : Nat, k ≤ n ∧ i = .int .i64 k ∧ Hid (∀ y ∈ xs.take k, s ≠ y) ∧ Below w.heap.size w wr) (fun i _ => n - (intOf i).toNat)
  case atStart => exact ⟨0, by omega, rfl, hide (by simp), Below.refl _ _⟩
  case round =>
    obtain ⟨k, hk, rfl, hno, hB⟩ := hrel
    obtain ⟨hc, hf⟩ := bcell hB
    have hsz := hB.size
    by_cases hlt : k < n
    · obtain ⟨b, off, rfl, hra⟩ := h.out.at_ (i := k) (by rw [← hn.out]; exact hlt)
      have hb1 := hra.1
      obtain ⟨p, hx⟩ := get_some (xs := xs) (i := k) (by rw [← hn.out]; exact hlt)
      have hx1 := hra.str hx
      replace hx := hide hx
      replace hra := hide hra
      cases hne : (s.toList == p.toList)
      · go_wp2
        refine ⟨?_, ?_⟩
        · first
            | exact ⟨k + 1, by omega, by go_num, hide (by rw [take_snoc hx.out]; intro y hy; rw [List.mem_append] at hy; exact hy.elim (hno.out y) (fun h => by rw [List.mem_singleton] at h; subst h; intro e; rw [e] at hne; simp at hne)), hB⟩
            | ((repeat apply Exists.intro); exact ⟨⟨k + 1, by omega, by go_num, hide (by rw [take_snoc hx.out]; intro y hy; rw [List.mem_append] at hy; exact hy.elim (hno.out y) (fun h => by rw [List.mem_singleton] at h; subst h; intro e; rw [e] at hne; simp at hne)), hB⟩, rfl⟩)
        · first | (simp [intOf, lenV]; omega) | (simp [intOf]; omega)
      · go_wp2
        go_ret
        exact ⟨_, rfl, hide (by have := toList_inj (beq_iff_eq.1 hne); subst this; exact propext ⟨fun _ => List.mem_of_getElem? hx.out, fun _ => by omega⟩), hB⟩
    · go_wp2
      go_ret
      refine ⟨_, rfl, hide (propext ⟨fun h => by omega, fun h => ?_⟩), hB⟩
      have := hno.out
      rw [List.take_of_length_le (by rw [← hn.out]; omega)] at this
      exact absurd rfl (this s h)

set_option maxHeartbeats 1000000 in
theorem contains_str (A : Option Addr) (n c : Nat) (xs : List ByteArray) (s : ByteArray) (w : World) (hn : n = xs.length) (h : Rd strE w.heap.size w A xs) (hb : n ≤ 1000000) :
    Calls Try.prog 32 #[.slice A n c, .string s] w fun e w' => ∃ b : Bool, e = .returned (.bool b) ∧ Hid ((b = true) = (s ∈ xs)) ∧ Ext w w' := by
  replace hn := hide hn
  replace h := hide h
  go_enter Try.func32, Try.ntmps32
  go_wp2_with fail
  refine (index_str A n c xs s _ hn.out h.out hb).mono ?_
  rintro e w1 ⟨z, rfl, hz, hE⟩
  go_wp2
  go_ret
  exact ⟨_, rfl, hide (by rw [← hz.out]; simp), hE⟩

set_option maxHeartbeats 1000000 in
theorem isSorted_str (A : Option Addr) (n c : Nat) (xs : List ByteArray) (w : World) (hn : n = xs.length) (h : Rd strE w.heap.size w A xs) (hb : n ≤ 1000000) (hs : srt ltS xs) :
    Calls Try.prog 33 #[.slice A n c] w fun e w' => e = .returned (.bool true) ∧ Ext w w' := by
  replace hn := hide hn
  replace h := hide h
  replace hs := hide hs
  go_enter Try.func33, Try.ntmps33
  have e1 : IntKind.i64.wrap ((n : Int) - 1) = (n : Int) - 1 := IntWalk.i64_in _ (by omega)
  go_wp2
  go_loopw [3] (fun i wr => ∃ j : Int, -1 ≤ j ∧ j < (n : Int) ∧ i = .int .i64 j ∧ Below w.heap.size w wr) (fun i _ => (intOf i + 1).toNat)
  case atStart => exact ⟨(n : Int) - 1, by omega, by omega, rfl, Below.refl _ _⟩
  case round =>
    obtain ⟨j, hj1, hj2, rfl, hB⟩ := hrel
    obtain ⟨hc, hf⟩ := bcell hB
    have hsz := hB.size
    by_cases hlt : 0 < j
    · obtain ⟨k, hk⟩ : ∃ k : Nat, j = ((k + 1 : Nat) : Int) := ⟨(j - 1).toNat, by omega⟩
      have hkn : k + 1 < n := by omega
      obtain ⟨b, off, rfl, hr⟩ := h.out.at_ (i := k) (by rw [← hn.out]; omega)
      have hb1 := hr.1
      have hb' : b < wr.heap.size := by omega
      obtain ⟨p, hx⟩ := get_some (xs := xs) (i := k + 1) (by rw [← hn.out]; omega)
      have hx1 := hr.str hx
      obtain ⟨q, hy⟩ := get_some (xs := xs) (i := k) (by rw [← hn.out]; omega)
      have hy1 := hr.str hy
      have hord : ltS p q = false := srt_step hs.out hy hx
      have s1 : IntKind.i64.wrap (j - 1) = j - 1 := IntWalk.i64_in _ (by omega)
      have s2 : (0 : Int) ≤ j - 1 := by omega
      have s3 : (j - 1).toNat = k := by omega
      have s4 : (0 : Int) ≤ j := by omega
      have s5 : j.toNat = k + 1 := by omega
      have s6 : (1 : Int) ≤ j := by omega
      have s7 : j - 1 < (n : Int) := by omega
      replace hx := hide hx
      replace hy := hide hy
      replace hr := hide hr
      clear hk
      go_wp2
      refine wp_region_ext (by kernel_rfl) (by kernel_rfl) ?_
      iterate 9
        apply ext_step rfl
        · intro W hW
          have hcW := (bcell hW).1
          unfold Oper.quietAt
          go_simp
          exact rfl
        simp only [Act.put, List.setIfInBounds_toArray, List.set_cons_zero, List.set_cons_succ]
      apply ext_step rfl
      · intro W hW
        have hcW := (bcell hW).1
        unfold Oper.quietAt
        go_simp
        exact (less_str _ _ _).mono fun e w' h => ⟨h.1, hW.trans (h.2.mono hW.size)⟩
      simp only [Act.put, List.setIfInBounds_toArray, List.set_cons_zero, List.set_cons_succ]
      refine wpQuiet_nil (fun w1 hB1 => ?_)
      have hB2 := hB.trans (hB1.mono hB.size)
      rw [hord]
      go_wp2
      refine ⟨⟨j - 1, by omega, by omega, by go_num, hB2⟩, ?_⟩
      · simp [intOf]
        omega
    · go_wp2
      go_ret
      exact ⟨rfl, hB⟩
end Go.Proofs.Ytecfceabioajkaa
