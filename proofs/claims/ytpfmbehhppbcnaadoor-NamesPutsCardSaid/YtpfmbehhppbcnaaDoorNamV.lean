/- The document's Move. -/
import Derived.Test.YtpfmbehhppbcnaaDoorNamBP
namespace Go.Proofs.YtpfmbehhppbcnaaDoor
open Go.RowKit

def subB (a b : List ByteArray) : Bool := a.all fun s => decide (s ∈ b)
set_option maxRecDepth 100000 in
set_option maxHeartbeats 2000000 in
theorem refMove_any (A1 A2 : Option Addr) (n1 c1 n2 c2 : Nat) (a b : List ByteArray) (w : World) (h1 : Rd strE w.heap.size w A1 a) (hn1 : n1 = a.length) (hl1 : n1 ≤ 1000000) (h2 : Rd strE w.heap.size w A2 b) (hn2 : n2 = b.length) (hl2 : n2 ≤ 1000000) :
    Calls Tryd.prog 26 #[.agg #[.slice A1 n1 c1], .agg #[.slice A2 n2 c2]] w fun e w' => ∃ v, e = .returned (.tuple #[v, .bool (subB a b)]) ∧ Own intE 3 w.heap.size w' v (if subB a b = true then a.map fun s => (at_ b s : Int) else []) ∧ Ext w w' := by
  obtain ⟨mo, hmo⟩ : ∃ m, m = (if subB a b = true then a.map (fun s => (at_ b s : Int)) else []) := ⟨_, rfl⟩
  obtain ⟨q, hq⟩ : ∃ q, q = subB a b := ⟨_, rfl⟩
  rw [← hmo, ← hq]
  replace hmo := hide hmo
  replace hq := hide hq
  replace h1 := hide h1
  replace hn1 := hide hn1
  replace h2 := hide h2
  replace hn2 := hide hn2
  go_enter Tryd.func26, Tryd.ntmps26
  go_upto_region 1 with fail
  obtain ⟨w0, hw0⟩ : ∃ x, x = (w.alloc (.cells #[.slice A1 n1 c1] 27)).alloc (.cells #[.slice A2 n2 c2] 27) := ⟨_, rfl⟩
  rw [← hw0]
  have hE : Ext w w0 := by rw [hw0]; exact ((Below.refl _ _).alloc (Nat.le_refl _) _).alloc (by simp) _
  have X2 : Box w0 w.heap.size 27 (.slice A1 n1 c1) := by rw [hw0]; exact (Box.new _ _ _).alloc _
  have X3 : Box w0 (w.heap.size + 1) 27 (.slice A2 n2 c2) := by
    rw [hw0]
    have := Box.new (w.alloc (.cells #[.slice A1 n1 c1] 27)) 27 (.slice A2 n2 c2)
    rw [World.size_alloc] at this
    exact this
  clear hw0
  obtain ⟨b2, hb2⟩ : ∃ x, x = w.heap.size := ⟨_, rfl⟩
  rw [← hb2] at X2 X3 ⊢
  obtain ⟨b3, hb3⟩ : ∃ x, x = b2 + 1 := ⟨_, rfl⟩
  rw [← hb3] at X3 ⊢
  clear hb2 hb3
  have k2 := X2.cell
  have s2 := X2.lt
  go_wp2
  replace X2 := hide X2
  replace X3 := hide X3
  obtain ⟨mp, hmpd⟩ : ∃ mp, mp = a.map fun s => (at_ b s : Int) := ⟨_, rfl⟩
  have hmpl : Hid (mp.length = n1) := hide (by rw [hmpd, List.length_map, hn1.out])
  replace hmpd := hide hmpd
  go_loopw [14, 6] (fun i u wr => ∃ (k : Nat) (v6 : Value), k ≤ n1 ∧ i = .int .i64 k ∧ v6 = u ∧ Hid (∀ y ∈ a.take k, y ∈ b) ∧ Hid (Own intE 3 w.heap.size wr v6 (mp.take k)) ∧ Hid (Box wr b3 27 (.slice A2 n2 c2)) ∧ Ext w wr) (fun i _ _ => n1 - (intOf i).toNat)
  case atStart => exact ⟨0, _, Nat.zero_le _, rfl, rfl, hide (by simp), hide Own.nil_, X3, hE⟩
  case round =>
    clear X2 X3 hE k2 s2
    obtain ⟨k, v6, hk, rfl, rfl, hin, O6, X3, hE⟩ := hrel
    obtain ⟨hcc, hff⟩ := bcell hE
    have hsz := hE.size
    by_cases hlt : k < n1
    · have hlt' : (k : Int) < (n1 : Int) := by omega
      obtain ⟨bk, off, rfl, ra⟩ := h1.out.at_ (i := k) (by rw [← hn1.out]; exact hlt)
      obtain ⟨x, hx⟩ := get_some (xs := a) (i := k) (by rw [← hn1.out]; exact hlt)
      have hxc := (ra.below hE).str hx
      have hbr : bk < wr.heap.size := Nat.lt_of_lt_of_le ra.1 hsz
      have htk : Hid (a.take (k + 1) = a.take k ++ [x]) := hide (take_snoc hx)
      have hmx : Hid (x ∈ a) := hide (List.mem_of_getElem? hx)
      have hlen : Hid ((mp.take k).length ≤ n1) := hide (by rw [List.length_take]; have := hmpl.out; omega)
      have k3 := X3.out.cell
      have s3 := X3.out.lt
      replace hx := hide hx
      replace ra := hide ra
      clear hcc hff
      go_wp2_with fail
      refine (refFind_any A2 n2 c2 b x _ (h2.out.ext hE) hn2.out hl2).mono ?_
      rintro e w3 ⟨rfl, hE1⟩
      replace O6 := O6.out.ext hE1
      replace X3 := X3.out.ext hE1
      replace hE := hE.trans (hE1.mono hE.size)
      clear hE1 hxc hbr k3 s3 hsz
      by_cases hxb : x ∈ b
      · rw [if_pos hxb, decide_eq_true hxb]
        obtain ⟨j, hj⟩ : ∃ j, j = at_ b x := ⟨_, rfl⟩
        rw [← hj]
        have hin2 : Hid (∀ y ∈ a.take (k + 1), y ∈ b) := hide (by
          rw [htk.out]; intro y hy
          rcases List.mem_append.1 hy with h | h
          · exact hin.out y h
          · rw [List.mem_singleton] at h; rw [h]; exact hxb)
        have hmp : Hid (mp.take (k + 1) = mp.take k ++ [(j : Int)]) := hide (take_snoc (by rw [hmpd.out, List.getElem?_map, hx.out, hj]; rfl))
        replace hj := hide hj
        replace hxb := hide hxb
        have hon := own_new (base := 0) (e := 3) intE w3 (j : Int) w3.heap.size rfl (Nat.zero_le _)
        obtain ⟨A4, c4, hv1, hr4, -, -⟩ := hon.rd
        injection hv1 with hv2 hv3 hv4
        subst hv2
        clear hon hv3 hv4
        replace hr4 := hide hr4
        have Oa := hide (O6.alloc (.cells (intE.cs (j : Int)).toArray 3))
        have X3a := hide (X3.alloc (.cells (intE.cs (j : Int)).toArray 3))
        have hsz := hE.size
        have hEa := hide (hE.alloc hsz (.cells (intE.cs (j : Int)).toArray 3))
        obtain ⟨A6, c6, hv6, -, -, -⟩ := O6.rd
        replace hv6 := hide hv6
        clear O6 X3 hE
        go_wp2_with (at_builtin; refine wpList_app tyInt rfl (.tmp 27) (.tmp 29) rfl rfl Oa.out rfl hr4.out rfl (by have := hlen.out; simp at this ⊢; omega) (by simp; omega) ?_)
        intro v' w9 hown hg hne hnil
        have X3b := hide (X3a.out.app Oa.out hg (by decide))
        have hEb : Ext w w9 := Own.below Oa.out hEa.out hg (by simp; omega)
        rw [← hmp.out] at hown
        have hownb := hide hown
        clear hown hg hne hnil hr4 Oa X3a hEa hsz
        obtain ⟨A8, c8, hv8, -, -, -⟩ := hownb.out.rd
        replace hv8 := hide hv8
        go_wp2
        refine ⟨?_, ?_⟩
        · first
            | exact ⟨k + 1, _, by omega, by go_num, rfl, hin2, hownb, X3b, hEb⟩
            | ((repeat apply Exists.intro); exact ⟨⟨k + 1, _, by omega, by go_num, rfl, hin2, hownb, X3b, hEb⟩, rfl⟩)
        · first | (simp [intOf, lenV]; omega) | (simp [intOf]; omega) | (simp [intOf]; done)
      · have v1 : Hid (q = false) := hide (by rw [hq.out]; unfold subB; rw [List.all_eq_false]; exact ⟨x, hmx.out, by simpa using hxb⟩)
        have v2 : Hid (mo = []) := hide (by rw [hmo.out, ← hq.out, v1.out]; rfl)
        rw [if_neg hxb, decide_eq_false hxb]
        replace hxb := hide hxb
        go_wp2
        go_ret2
        exact ⟨.slice none 0 0, by rw [v1.out]; rfl, by rw [v2.out]; exact Own.nil_, hE⟩
    · have hlt' : ¬ (k : Int) < (n1 : Int) := by omega
      have hkn : k = n1 := by omega
      have v1 : Hid (q = true) := hide (by
        rw [hq.out]
        have h3 := hin.out
        rw [hkn, hn1.out, List.take_length] at h3
        unfold subB; rw [List.all_eq_true]; intro y hy; exact decide_eq_true (h3 y hy))
      have v2 : Hid (mo = mp.take k) := hide (by rw [hmo.out, ← hq.out, v1.out, if_pos rfl, hkn, ← hmpl.out, List.take_length, hmpd.out])
      clear hkn hcc hff
      go_wp2
      go_ret2
      exact ⟨_, by rw [v1.out]; rfl, by rw [v2.out]; exact O6.out, hE⟩
end Go.Proofs.YtpfmbehhppbcnaaDoor
