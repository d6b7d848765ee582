/- The document's own reading of a number: yardarmref01's Read. -/
import Derived.Test.YtlianjnmfgakkaaDoorDigR2
namespace Go.Proofs.YtlianjnmfgakkaaDoor
open Go.RowKit Go.Lib

theorem nd_all {D : List Int} (h : ∀ b ∈ D, isD b = true) : nd D = D.length := by
  have := nd_append (r := []) h (by simp)
  rw [List.append_nil] at this
  exact this
theorem looks_digits : ∀ {L : List Int}, looksB L = true → (L.head? == some 45) = false → (∀ b ∈ L, isD b = true) ∧ L ≠ [] ∧ (L.head? = some 48 → L = [48])
  | [], h, _ => by cases h
  | x :: r, h, h45 => by
    have hx : ¬ x = 45 := by
      rw [beq_eq_false_iff_ne] at h45
      exact fun e => h45 (by rw [e]; rfl)
    rw [looksB, if_neg hx] at h
    simp only [Bool.and_eq_true, List.all_eq_true] at h
    refine ⟨h.1, by simp, fun e => ?_⟩
    have e' : x = 48 := by simpa using e
    rcases Bool.or_eq_true_iff.1 h.2 with h2 | h2
    · simpa using h2
    · rw [e'] at h2
      simp at h2
structure Looked (L D : List Int) (below : Bool) : Prop where
  drop : L.drop (sg L) = D
  neg : neg L = below
  dig : ∀ b ∈ D, isD b = true
  ne : D ≠ []
  nought : D.head? = some 48 → D.length = 1
  read : readS L = if val D ≤ 9223372036854775807 + below.toNat then (if below then -(val D : Int) else val D, 0) else (0, 111)
theorem looked_neg {R : List Int} (h : looksB (45 :: R) = true) : Looked (45 :: R) R true := by
  rw [looksB, if_pos rfl] at h
  simp only [Bool.and_eq_true, Bool.not_eq_true'] at h
  obtain ⟨h1, h2, h3⟩ := h
  obtain ⟨d1, d2, d3⟩ := looks_digits h2 h3
  have hs : sg (45 :: R) = 1 := rfl
  have hd : (45 :: R : List Int).drop 1 = R := rfl
  have hk : headEnd (45 :: R) = R.length + 1 := by
    unfold headEnd
    rw [hs, hd, nd_all d1]
    have := List.length_pos_iff.2 d2
    rw [if_neg (by omega)]
    omega
  have h48 : R.head? ≠ some 48 := fun e => by
    have := d3 e
    rw [this] at h1
    simp at h1
  refine ⟨rfl, rfl, d1, d2, fun e => absurd e h48, ?_⟩
  unfold readS
  rw [hk, hs, hd, List.length_cons, if_neg (by omega), if_neg (fun h => h48 h.1)]
  rfl
theorem looked_pos {L : List Int} (h : looksB L = true) (h45 : (L.head? == some 45) = false) : Looked L L false := by
  obtain ⟨d1, d2, d3⟩ := looks_digits h h45
  have hs : sg L = 0 := by
    unfold sg
    rw [if_neg (beq_eq_false_iff_ne.1 h45)]
  have hl := List.length_pos_iff.2 d2
  have hk : headEnd L = L.length := by
    unfold headEnd
    rw [hs, List.drop_zero, nd_all d1, if_neg (by omega)]
    omega
  have hn : neg L = false := h45
  refine ⟨by rw [hs, List.drop_zero], hn, d1, d2, fun e => by rw [d3 e]; rfl, ?_⟩
  unfold readS
  rw [hk, hs, List.drop_zero, hn, if_neg (by omega), if_neg]
  rintro ⟨e, h5⟩
  rcases h5 with h5 | h5
  · rw [d3 e] at h5
    simp at h5
  · cases h5
theorem not_looks {L : List Int} (h : looksB L = false) : readS L = (0, 110) := by
  unfold readS
  by_cases h1 : headEnd L = 0 ∨ headEnd L ≠ L.length
  · rw [if_pos h1]
  · have hk : headEnd L = L.length := by
      by_cases h4 : headEnd L = L.length
      · exact h4
      · exact absurd (.inr h4) h1
    have hL0 : 0 < L.length := by
      rcases Nat.eq_zero_or_pos L.length with h4 | h4
      · exact absurd (.inl (hk.trans h4)) h1
      · exact h4
    obtain ⟨hI, hD⟩ := all_head hk hL0
    rw [if_neg h1, if_pos]
    cases L with
    | nil => simp at hL0
    | cons x r =>
      by_cases hx : x = 45
      · subst hx
        have hs : sg (45 :: r) = 1 := rfl
        have hd : (45 :: r : List Int).drop 1 = r := rfl
        rw [hs, hd] at hI hD ⊢
        rw [looksB, if_pos rfl] at h
        cases r with
        | nil => exact absurd rfl hI
        | cons y r =>
          have hy := hD y (by simp)
          have hy45 : ¬ y = 45 := by
            intro e
            subst e
            exact absurd hy (by decide)
          rw [looksB, if_neg hy45] at h
          have hall : (y :: r).all isD = true := List.all_eq_true.2 hD
          rw [hall] at h
          have hy2 : ((y :: r).head? == some (45 : Int)) = false := by
            rw [beq_eq_false_iff_ne]
            simpa using hy45
          rw [hy2] at h
          by_cases h48 : y = 48
          · exact ⟨by rw [h48]; rfl, .inr rfl⟩
          · have e1 : ((y :: r) == [48]) = false := by
              rw [beq_eq_false_iff_ne]
              intro e
              injection e with e
              exact h48 e
            have e2 : (y == 48) = false := beq_eq_false_iff_ne.2 h48
            rw [e1, e2] at h
            simp at h
      · have hs : sg (x :: r) = 0 := by
          unfold sg
          rw [if_neg (by simpa using hx)]
        rw [hs, List.drop_zero] at hI hD ⊢
        rw [looksB, if_neg hx, List.all_eq_true.2 hD] at h
        simp at h
        obtain ⟨e1, e2⟩ := h
        subst e2
        refine ⟨rfl, .inl ?_⟩
        have : r ≠ [] := fun e => e1 rfl e
        have := List.length_pos_iff.2 this
        simp
        omega
theorem val_take_le (D : List Int) (k : Nat) : val (D.take k) ≤ val D := by
  conv => rhs; rw [← List.take_append_drop k D]
  unfold val
  rw [List.foldl_append]
  exact val_ge _ _

set_option maxHeartbeats 4000000 in
theorem refRead_any (s : ByteArray) (hl : s.size ≤ 1000000000) (hlk : looksB (nums s) = true) (w : World) :
    Calls Tryd.prog 57 #[.string s] w fun e w' => e = .returned (.tuple #[.int .i64 (readS (nums s)).1, .bool ((readS (nums s)).2 == 0)]) ∧ w' = w := by
  have hpos : 0 < s.size := by
    rcases Nat.eq_zero_or_pos s.size with h | h
    · have : nums s = [] := List.eq_nil_of_length_eq_zero (by rw [nums_length]; exact h)
      rw [this] at hlk
      cases hlk
    · exact h
  obtain ⟨b0, hb0⟩ : ∃ b0, b0 = (s[0]'hpos).toNat := ⟨_, rfl⟩
  have hx0 : (s[0]'hpos).toNat = b0 := hb0.symm
  have hL0 : (nums s)[0]? = some (b0 : Int) := by rw [at_byte hpos, hx0]
  replace hb0 := hide hb0
  by_cases h45 : b0 = 45
  · subst h45
    obtain ⟨t, ht⟩ : ∃ t, t = s.extract 1 s.size := ⟨_, rfl⟩
    have hts : s.extract 1 s.size = t := ht.symm
    have htl : t.size = s.size - 1 := by rw [ht, ByteArray.size_extract, Nat.min_self]
    have htn : nums t = (nums s).drop 1 := by
      rw [ht]
      unfold nums
      rw [ByteArray.data_extract, Array.toList_extract, List.map_take, List.map_drop]
      apply List.take_of_length_le
      simp
    have hsn : nums s = 45 :: nums t := by
      rw [htn]
      cases hn : nums s with
      | nil => rw [hn] at hL0; simp at hL0
      | cons x L => rw [hn] at hL0; simp at hL0; subst hL0; rfl
    rw [hsn] at hlk
    have hK := looked_neg hlk
    rw [← hsn] at hK
    have hv : val (nums ⟨#[57, 50, 50, 51, 51, 55, 50, 48, 51, 54, 56, 53, 52, 55, 55, 53, 56, 48, 56]⟩) = 9223372036854775808 := by decide +kernel
    have hab := above_val (a := t) (b := ⟨#[57, 50, 50, 51, 51, 55, 50, 48, 51, 54, 56, 53, 52, 55, 55, 53, 56, 48, 56]⟩) (k := 19) hK.dig (by decide +kernel) hK.ne hK.nought rfl (by rw [hv]; decide) (by decide)
    rw [hv] at hab
    have hr := hK.read
    have hs1 : 1 ≤ s.size := hpos
    replace hL0 := hide hL0
    replace hsn := hide hsn
    replace ht := hide ht
    replace htn := hide htn
    replace htl := hide htl
    replace hK := hide hK
    clear hlk
    by_cases hbig : 9223372036854775808 < val (nums t)
    · rw [decide_eq_true hbig] at hab
      rw [if_neg (by simp; omega)] at hr
      replace hab := hide hab
      replace hr := hide hr
      replace hbig := hide hbig
      clear hv
      go_enter Tryd.func57, Tryd.ntmps57
      go_wp2_with fail
      refine (above_any t _ (by have := htl.out; omega) (by decide) _).mono ?_
      rintro e w1 ⟨rfl, rfl⟩
      rw [hab.out]
      go_wp2
      go_ret2
      exact ⟨by rw [hr.out]; rfl, rfl⟩
    · rw [decide_eq_false hbig] at hab
      rw [if_pos (by simp; omega)] at hr
      replace hab := hide hab
      replace hr := hide hr
      replace hbig : val (nums t) ≤ 9223372036854775808 := by omega
      replace hbig := hide hbig
      clear hv
      go_enter Tryd.func57, Tryd.ntmps57
      go_wp2_with fail
      refine (above_any t _ (by have := htl.out; omega) (by decide) _).mono ?_
      rintro e w1 ⟨rfl, rfl⟩
      rw [hab.out]
      go_wp2
      go_loopw [4, 17] (fun n i wr => ∃ (k : Nat) (v : Int), i = .int .i64 k ∧ k ≤ s.size - 1 ∧ n = .int .i64 v ∧ Hid (v = -(val ((nums t).take k) : Int)) ∧ wr = w1) (fun _ i _ => s.size - 1 - (intOf i).toNat)
      case atStart => exact ⟨0, 0, rfl, Nat.zero_le _, rfl, hide rfl, rfl⟩
      case round =>
        obtain ⟨k, v, rfl, hk, rfl, hvk, rfl⟩ := hrel
        by_cases hlt : k < s.size - 1
        · have hk1 : k + 1 < s.size := by omega
          have hki : (k : Int) < (s.size : Int) - 1 := by omega
          obtain ⟨b, hb⟩ : ∃ b, b = (s[k + 1]'hk1).toNat := ⟨_, rfl⟩
          have hxe : (s[k + 1]'hk1).toNat = b := hb.symm
          have hTe : (nums t)[k]? = some (b : Int) := by
            rw [htn.out, List.getElem?_drop, Nat.add_comm 1 k, at_byte hk1, hxe]
          replace hb := hide hb
          have hbd := hK.out.dig _ (List.mem_of_getElem? hTe)
          unfold isD at hbd
          simp at hbd
          have hstep := take_val hTe
          have hle := val_take_le (nums t) (k + 1)
          have hvv := hvk.out
          have hbb := hbig.out
          have s1 : IntKind.u8.wrap ((b : Int) - 48) = (b : Int) - 48 := by rw [IntKind.wrap_u8]; omega
          have s2 : IntKind.i64.wrap ((b : Int) - 48) = (b : Int) - 48 := IntWalk.i64_in _ (by omega)
          have s3 : IntKind.i64.wrap (v * 10) = v * 10 := IntWalk.i64_in _ (by omega)
          have s4 : IntKind.i64.wrap (v * 10 - ((b : Int) - 48)) = v * 10 - ((b : Int) - 48) := IntWalk.i64_in _ (by omega)
          have hv' : Hid (v * 10 - ((b : Int) - 48) = -(val ((nums t).take (k + 1)) : Int)) := hide (by omega)
          have hk2 : k + 1 ≤ s.size - 1 := hlt
          clear hvv hbb hle hstep
          replace hTe := hide hTe
          replace hbd := hide hbd
          go_wp2
          refine ⟨?_, ?_⟩
          · first
              | exact ⟨k + 1, v * 10 - ((b : Int) - 48), by go_num, hk2, rfl, hv', trivial⟩
              | ((repeat apply Exists.intro); exact ⟨⟨k + 1, v * 10 - ((b : Int) - 48), by go_num, hk2, rfl, hv', trivial⟩, rfl⟩)
          · first | (simp [intOf, lenV]; omega) | (simp [intOf]; omega) | (simp [intOf]; done)
        · obtain rfl : k = s.size - 1 := by omega
          have hvv : v = -(val (nums t) : Int) := by
            rw [hvk.out, ← htl.out, ← nums_length, List.take_length]
          have hki : ¬ ((s.size - 1 : Nat) : Int) < (s.size : Int) - 1 := by omega
          replace hvv := hide hvv
          go_wp2
          go_ret2
          exact ⟨by rw [hr.out, ← hvv.out]; rfl, rfl⟩
  · have h45i : ((b0 : Int) == 45) = false := by rw [beq_eq_false_iff_ne]; omega
    have hK := looked_pos hlk (by rw [List.head?_eq_getElem?, hL0, beq_eq_false_iff_ne]; intro e; injection e with e; omega)
    have hv : val (nums ⟨#[57, 50, 50, 51, 51, 55, 50, 48, 51, 54, 56, 53, 52, 55, 55, 53, 56, 48, 55]⟩) = 9223372036854775807 := by decide +kernel
    have hab := above_val (a := s) (b := ⟨#[57, 50, 50, 51, 51, 55, 50, 48, 51, 54, 56, 53, 52, 55, 55, 53, 56, 48, 55]⟩) (k := 19) hK.dig (by decide +kernel) hK.ne hK.nought rfl (by rw [hv]; decide) (by decide)
    rw [hv] at hab
    have hr := hK.read
    replace hL0 := hide hL0
    replace hK := hide hK
    clear hlk
    by_cases hbig : 9223372036854775807 < val (nums s)
    · rw [decide_eq_true hbig] at hab
      rw [if_neg (by simp; omega)] at hr
      replace hab := hide hab
      replace hr := hide hr
      replace hbig := hide hbig
      clear hv
      go_enter Tryd.func57, Tryd.ntmps57
      go_wp2_with fail
      refine (above_any s _ (by omega) (by decide) _).mono ?_
      rintro e w1 ⟨rfl, rfl⟩
      rw [hab.out]
      go_wp2
      go_ret2
      exact ⟨by rw [hr.out]; rfl, rfl⟩
    · rw [decide_eq_false hbig] at hab
      rw [if_pos (by simp; omega)] at hr
      replace hab := hide hab
      replace hr := hide hr
      replace hbig : val (nums s) ≤ 9223372036854775807 := by omega
      replace hbig := hide hbig
      clear hv
      go_enter Tryd.func57, Tryd.ntmps57
      go_wp2_with fail
      refine (above_any s _ (by omega) (by decide) _).mono ?_
      rintro e w1 ⟨rfl, rfl⟩
      rw [hab.out]
      go_wp2
      go_loopw [6, 35] (fun n i wr => ∃ (k : Nat) (v : Int), i = .int .i64 k ∧ k ≤ s.size ∧ n = .int .i64 v ∧ Hid (v = (val ((nums s).take k) : Int)) ∧ wr = w1) (fun _ i _ => s.size - (intOf i).toNat)
      case atStart => exact ⟨0, 0, rfl, Nat.zero_le _, rfl, hide rfl, rfl⟩
      case round =>
        obtain ⟨k, v, rfl, hk, rfl, hvk, rfl⟩ := hrel
        by_cases hlt : k < s.size
        · obtain ⟨b, hb⟩ : ∃ b, b = (s[k]'hlt).toNat := ⟨_, rfl⟩
          have hxe : (s[k]'hlt).toNat = b := hb.symm
          have hTe : (nums s)[k]? = some (b : Int) := by rw [at_byte hlt, hxe]
          replace hb := hide hb
          have hbd := hK.out.dig _ (List.mem_of_getElem? hTe)
          unfold isD at hbd
          simp at hbd
          have hstep := take_val hTe
          have hle := val_take_le (nums s) (k + 1)
          have hvv := hvk.out
          have hbb := hbig.out
          have s1 : IntKind.u8.wrap ((b : Int) - 48) = (b : Int) - 48 := by rw [IntKind.wrap_u8]; omega
          have s2 : IntKind.i64.wrap ((b : Int) - 48) = (b : Int) - 48 := IntWalk.i64_in _ (by omega)
          have s3 : IntKind.i64.wrap (v * 10) = v * 10 := IntWalk.i64_in _ (by omega)
          have s4 : IntKind.i64.wrap (v * 10 + ((b : Int) - 48)) = v * 10 + ((b : Int) - 48) := IntWalk.i64_in _ (by omega)
          have hv' : Hid (v * 10 + ((b : Int) - 48) = (val ((nums s).take (k + 1)) : Int)) := hide (by omega)
          have hk2 : k + 1 ≤ s.size := hlt
          clear hvv hbb hle hstep
          replace hTe := hide hTe
          replace hbd := hide hbd
          go_wp2
          refine ⟨?_, ?_⟩
          · first
              | exact ⟨k + 1, v * 10 + ((b : Int) - 48), by go_num, hk2, rfl, hv', trivial⟩
              | ((repeat apply Exists.intro); exact ⟨⟨k + 1, v * 10 + ((b : Int) - 48), by go_num, hk2, rfl, hv', trivial⟩, rfl⟩)
          · first | (simp [intOf, lenV]; omega) | (simp [intOf]; omega) | (simp [intOf]; done)
        · obtain rfl : k = s.size := by omega
          have hvv : v = (val (nums s) : Int) := by
            rw [hvk.out, ← nums_length, List.take_length]
          replace hvv := hide hvv
          go_wp2
          go_ret2
          exact ⟨by rw [hr.out, ← hvv.out]; rfl, rfl⟩
end Go.Proofs.YtlianjnmfgakkaaDoor
