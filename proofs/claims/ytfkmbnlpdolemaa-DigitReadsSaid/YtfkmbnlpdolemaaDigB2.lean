/- DigitBack: Read of Text is the number, Text of Read the text. -/
import Derived.Test.YtfkmbnlpdolemaaDigP
import Derived.Test.YtfkmbnlpdolemaaDigO
namespace Go.Proofs.Ytfkmbnlpdolemaa
open Go.RowKit Go.Lib

def cutS (s : ByteArray) : ByteArray := s.extract 0 (min s.size 300)
theorem cutS_size (s : ByteArray) : (cutS s).size ≤ 300 := by
  unfold cutS
  rw [ByteArray.size_extract]
  omega
theorem cut_any (s : ByteArray) (w : World) :
    Calls Try.prog 11 #[.string s] w fun e w' => e = .returned (.string (cutS s)) ∧ w' = w := by
  unfold cutS
  by_cases h : s.size ≤ 300
  · rw [Nat.min_eq_left h, ext_all]
    go_enter Try.func11, Try.ntmps11
    go_wp2
    go_ret
    exact ⟨rfl, rfl⟩
  · rw [Nat.min_eq_right (by omega)]
    have h' : ¬ (s.size : Int) ≤ 300 := by omega
    have h2 : 300 ≤ s.size := by omega
    go_enter Try.func11, Try.ntmps11
    go_wp2
    go_ret
    exact ⟨rfl, rfl⟩
theorem prefix_inner (a p : ByteArray) (h1 : p.size ≤ a.size) (h2 : a.extract 0 p.size = p) (w : World) :
    Calls Try.prog 30 #[.string a, .string p] w fun e w' => e = .returned (.bool true) ∧ w' = w := by
  go_enter Try.func30, Try.ntmps30
  go_wp2
  go_ret
  exact ⟨rfl, rfl⟩
theorem prefix_any (a p : ByteArray) (h1 : p.size ≤ a.size) (h2 : a.extract 0 p.size = p) (w : World) :
    Calls Try.prog 17 #[.string a, .string p] w fun e w' => e = .returned (.bool true) ∧ w' = w := by
  replace h1 := hide h1
  replace h2 := hide h2
  go_enter Try.func17, Try.ntmps17
  go_wp2_with fail
  refine (prefix_inner a p h1.out h2.out _).mono ?_
  rintro e w1 ⟨rfl, rfl⟩
  go_wp2
  go_ret
  exact ⟨rfl, rfl⟩

set_option maxRecDepth 100000 in
set_option maxHeartbeats 4000000 in
theorem digitBack_any (n : Int) (hn : in64 n) (s : ByteArray) (w : World) :
    Calls Try.prog 4 #[.int .i64 n, .string s] w fun e w' => e = .returned (.bool true) ∧ Ext w w' := by
  replace hn := hide hn
  go_enter Try.func4, Try.ntmps4
  go_wp2_with fail
  refine (wakes_any _).mono ?_
  rintro e w1 ⟨rfl, hE1⟩
  go_wp2_with fail
  refine (text_any n hn.out _).mono ?_
  rintro e w2 ⟨rfl, hE2⟩
  have hW2 := hE1.trans (hE2.mono hE1.size)
  obtain ⟨t, ht⟩ : ∃ t, t = bs (txt n) := ⟨_, rfl⟩
  rw [← ht]
  have htn : nums t = txt n := by rw [ht, nums_txt]
  have hts : t.size ≤ 20 := by
    rw [ht, bs_size]
    have := dig_le 19 n.natAbs (by have := hn.out; unfold in64 at this; omega) (by decide)
    unfold txt
    split
    · simp; omega
    · omega
  have htr : readS (nums t) = (n, 0) := by rw [htn, read_txt n hn.out]
  replace ht := hide ht
  replace htn := hide htn
  replace htr := hide htr
  go_wp2_with fail
  refine (read_any t (by omega) _).mono ?_
  rintro e w3 ⟨rfl, hE3⟩
  rw [htr.out]
  have hW3 := hW2.trans (hE3.mono hW2.size)
  go_wp2_with fail
  refine (cut_any s _).mono ?_
  rintro e w3 ⟨rfl, rfl⟩
  obtain ⟨c, hc⟩ : ∃ c, c = cutS s := ⟨_, rfl⟩
  have hcs := cutS_size s
  rw [← hc] at hcs ⊢
  replace hc := hide hc
  have hk : headEnd (nums (t ++ ⟨#[120]⟩ ++ c)) = t.size := by
    rw [nums_append, nums_append, htn.out, List.append_assoc, txt_head n _ (by
      intro b hb
      have : nums ⟨#[120]⟩ = [120] := rfl
      rw [this] at hb
      simp at hb
      subst hb
      decide), ht.out, bs_size]
  have hx1 : (t ++ ⟨#[120]⟩ ++ c).extract 0 t.size = t := by rw [ByteArray.append_assoc]; exact extract_front _ _
  have hx2 : (t ++ ⟨#[120]⟩ ++ c).extract t.size (t ++ ⟨#[120]⟩ ++ c).size = ⟨#[120]⟩ ++ c := by rw [ByteArray.append_assoc]; exact extract_back _ _
  have hp1 : ByteArray.size ⟨#[120]⟩ ≤ ((⟨#[120]⟩ : ByteArray) ++ c).size := by rw [ByteArray.size_append]; omega
  have hp2 : ((⟨#[120]⟩ : ByteArray) ++ c).extract 0 (ByteArray.size ⟨#[120]⟩) = ⟨#[120]⟩ := extract_front _ _
  have hsz : (t ++ ⟨#[120]⟩ ++ c).size ≤ 1000000000 := by
    rw [ByteArray.size_append, ByteArray.size_append]
    have : ByteArray.size ⟨#[120]⟩ = 1 := rfl
    omega
  replace hk := hide hk
  replace hx1 := hide hx1
  replace hx2 := hide hx2
  replace hp1 := hide hp1
  replace hp2 := hide hp2
  replace hsz := hide hsz
  go_wp2_with fail
  refine (head_any _ hsz.out _).mono ?_
  rintro e w4 ⟨rfl, hE4⟩
  rw [hk.out, hx1.out, hx2.out]
  have hW4 := hW3.trans (hE4.mono hW3.size)
  obtain ⟨xc, hxc⟩ : ∃ xc, xc = (⟨#[120]⟩ : ByteArray) ++ c := ⟨_, rfl⟩
  rw [← hxc] at hp1 hp2 ⊢
  clear hk hx1 hx2 hsz
  replace hxc := hide hxc
  go_wp2_with fail
  refine (prefix_any xc _ hp1.out hp2.out _).mono ?_
  rintro e w4 ⟨rfl, rfl⟩
  go_wp2_with fail
  refine (cut_any s _).mono ?_
  rintro e w4 ⟨rfl, rfl⟩
  rw [← hc.out]
  go_wp2_with fail
  refine (head_any c (by omega) _).mono ?_
  rintro e w5 ⟨rfl, hE5⟩
  have hW5 := hW4.trans (hE5.mono hW4.size)
  have hb := extract_both c (headEnd (nums c)) (by rw [← nums_length]; exact headEnd_le _)
  generalize c.extract 0 (headEnd (nums c)) = a at *
  generalize c.extract (headEnd (nums c)) c.size = b at *
  have hab : ¬ 9223372036854775807 < a.size + b.size := by
    have := congrArg ByteArray.size hb
    rw [ByteArray.size_append] at this
    omega
  go_wp2_with fail
  refine (read_any c (by omega) _).mono ?_
  rintro e w6 ⟨rfl, hE6⟩
  have hW6 := hW5.trans (hE6.mono hW5.size)
  have htx := @txt_read (nums c)
  rcases read_err (nums c) with h0 | h0 | h0
  · obtain ⟨rs, hrs⟩ : ∃ rs, rs = readS (nums c) := ⟨_, rfl⟩
    rw [← hrs] at h0 ⊢
    obtain ⟨m, er⟩ := rs
    simp only at h0
    subst h0
    obtain ⟨hm, hmc⟩ := htx hrs.symm
    have hbm : bs (txt m) = c := by rw [hmc, bs_nums]
    clear htx hrs hmc hb
    go_wp2_with fail
    refine (text_any m hm _).mono ?_
    rintro e w7 ⟨rfl, hE7⟩
    rw [hbm]
    clear hbm
    go_wp2
    go_ret
    exact ⟨rfl, hW6.trans (hE7.mono hW6.size)⟩
  · rw [h0]
    clear h0 htx hb
    go_wp2
    go_ret
    exact ⟨rfl, hW6⟩
  · rw [h0]
    clear h0 htx hb
    go_wp2
    go_ret
    exact ⟨rfl, hW6⟩
end Go.Proofs.Ytfkmbnlpdolemaa
