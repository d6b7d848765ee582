/- BitsMay: the functions on rows of numbers, and the plain laws. -/
import Derived.Test.YtkiklbngfocljaaDoorBitNP
import Derived.Test.YtkiklbngfocljaaDoorBitYP
namespace Go.Proofs.YtkiklbngfocljaaDoor
open Go.RowKit

theorem notMay_any (n : Int) (w : World) : Calls Tryd.prog 30 #[.int .i64 n] w fun e w' => e = .returned (.bool (!mayB n)) ∧ w' = w := by
  go_enter Tryd.func30, Tryd.ntmps30
  go_wp2_with fail
  refine (lawMay_any n _).mono ?_
  rintro e w1 ⟨rfl, hw⟩
  subst hw
  obtain ⟨b, hb⟩ : ∃ b, b = mayB n := ⟨_, rfl⟩
  rw [← hb]
  replace hb := hide hb
  go_wp2
  go_ret
  exact ⟨by rw [← hb.out]; rfl, rfl⟩
theorem enter_notMay (args : Array Value) (w : World) : (callFunc 30 args).run Tryd.prog w = .ok (.enter 30 args) w := enters_of Tryd.func30 (by kernel_rfl) rfl args w
set_option maxHeartbeats 1000000 in
theorem index_any (A : Option Addr) (n c : Nat) (l : List Int) (w : World) (h : Rd intE w.heap.size w A l) (hn : n = l.length) (hl : n ≤ 1000000) :
    Calls Tryd.prog 50 #[.slice A n c, .func (.func 30) #[] #[]] w fun e w' => ∃ z : Int, e = .returned (.int .i64 z) ∧ decide (0 ≤ z) = !l.all mayB ∧ w' = w := by
  replace h := hide h
  replace hn := hide hn
  have he := enter_notMay
  go_enter Tryd.func50, Tryd.ntmps50
  go_wp2
  go_loopw [8] (fun i wr => ∃ k : Nat, k ≤ n ∧ i = .int .i64 k ∧ Hid ((l.take k).all mayB = true) ∧ w = wr) (fun i _ => n - (intOf i).toNat)
  case atStart => exact ⟨0, Nat.zero_le _, rfl, hide rfl, rfl⟩
  case round =>
    obtain ⟨k, hk, rfl, hall, rfl⟩ := hrel
    by_cases hlt : k < n
    · have hlt' : (k : Int) < (n : Int) := by omega
      obtain ⟨b1, o1, rfl, ra1⟩ := h.out.at_ (i := k) (by rw [← hn.out]; exact hlt)
      have hb1 := ra1.1
      obtain ⟨p1, hp1⟩ := get_some (xs := l) (i := k) (by rw [← hn.out]; exact hlt)
      have hx1 := ra1.int hp1
      have htk : Hid ((l.take (k + 1)).all mayB = mayB p1) := hide (by rw [take_snoc hp1, List.all_append, hall.out]; simp)
      have hme : Hid (p1 ∈ l) := hide (List.mem_of_getElem? hp1)
      replace hp1 := hide hp1
      replace ra1 := hide ra1
      go_wp2_with fail
      refine (notMay_any p1 _).mono ?_
      rintro e w1 ⟨rfl, hw⟩
      subst hw
      cases hm : mayB p1 with
      | true =>
        have ht2 : Hid ((l.take (k + 1)).all mayB = true) := hide (by rw [htk.out, hm])
        clear htk
        replace hm := hide hm
        go_wp2
        refine ⟨?_, ?_⟩
        · first
            | exact ⟨k + 1, by omega, by go_num, ht2, trivial⟩
            | ((repeat apply Exists.intro); exact ⟨⟨k + 1, by omega, by go_num, ht2, trivial⟩, rfl⟩)
        · first | (simp [intOf, lenV]; omega) | (simp [intOf]; omega) | (simp [intOf]; done)
      | false =>
        have hna : Hid (decide (0 ≤ (k : Int)) = !l.all mayB) := hide (by
          rw [decide_eq_true (by omega)]
          have : l.all mayB = false := by rw [List.all_eq_false]; exact ⟨p1, hme.out, by rw [hm]; decide⟩
          rw [this]; rfl)
        clear htk
        replace hm := hide hm
        go_wp2
        go_ret
        exact ⟨_, rfl, hna.out, rfl⟩
    · have hlt' : ¬ (k : Int) < (n : Int) := by omega
      have hna : Hid (decide (0 ≤ (-1 : Int)) = !l.all mayB) := hide (by
        have hkn : k = n := by omega
        have := hall.out
        rw [hkn, hn.out, List.take_length] at this
        rw [this]; rfl)
      go_wp2
      go_ret
      exact ⟨_, rfl, hna.out, rfl⟩
set_option maxHeartbeats 1000000 in
theorem contains_any (A : Option Addr) (n c : Nat) (l : List Int) (w : World) (h : Rd intE w.heap.size w A l) (hn : n = l.length) (hl : n ≤ 1000000) :
    Calls Tryd.prog 29 #[.slice A n c, .func (.func 30) #[] #[]] w fun e w' => e = .returned (.bool (!l.all mayB)) ∧ w' = w := by
  replace h := hide h
  replace hn := hide hn
  go_enter Tryd.func29, Tryd.ntmps29
  go_wp2_with fail
  refine (index_any A n c l _ h.out hn.out hl).mono ?_
  rintro e w1 ⟨z, rfl, hz, hw⟩
  subst hw
  replace hz := hide hz
  go_wp2
  go_ret
  exact ⟨by rw [← hz.out]; rfl, rfl⟩
theorem same_num {a b : List Nat} (ha : Fit a) (hb : Fit b) : decide (ofW a = ofW b) = decide (numL a = numL b) := by
  rw [Bool.eq_iff_iff, decide_eq_true_iff, decide_eq_true_iff]
  constructor
  · intro h; unfold numL; rw [h]
  · intro h
    refine good_ext (ofW_fit ha) (ofW_fit hb) (ofW_good ha) (ofW_good hb) fun n => ?_
    rw [Bool.eq_iff_iff, ← mem_numL ha, ← mem_numL hb, h]
theorem num_len (a : List Nat) : (nums (ofW a)).length = (numL a).length := by unfold numL natsI; rw [List.length_map]
theorem ofS_may {l : List Int} (h : l.all mayB = true) : ofS l = ofL l := by
  have hm : ∀ x ∈ l, mayB x = true := by rw [List.all_eq_true] at h; exact h
  unfold ofS
  rw [if_pos h]
  exact good_ext (trimW_fit (ofL_ok l hm).1) (ofL_ok l hm).1 (good_trim (ofL_good hm).2) (ofL_good hm) (trimW_has _)
theorem ofS_not {l : List Int} (h : l.all mayB = false) : ofS l = [] := by unfold ofS; rw [if_neg (by rw [h]; decide)]
theorem ofE_may {l : List Int} (h : l.all mayB = true) : ofE l = 0 := by unfold ofE; rw [if_pos h]
theorem ofE_not {l : List Int} (h : l.all mayB = false) : ofE l = 2 := by unfold ofE; rw [if_neg (by rw [h]; decide)]
end Go.Proofs.YtkiklbngfocljaaDoor
