/- The document's own words on levels and guarantees: yardarmref09's Right, Text, Read, Words, Guarantees. -/
import Derived.Test.YtbmcbbcgambflaaDoorLevK
import Derived.ChangeKeysEq
namespace Go.Proofs.YtbmcbbcgambflaaDoor
open Go.RowKit

theorem right_any (n : Int) (w : World) : Calls Tryd.prog 10 #[.int .i64 n] w fun e w' => e = .returned (.bool (lvl n)) ∧ w' = w := by
  unfold lvl
  by_cases h1 : 1 ≤ n
  · go_enter Tryd.func10, Tryd.ntmps10
    go_wp2
    go_ret
    exact ⟨by rw [decide_eq_true h1]; rfl, rfl⟩
  · have h2 : n < 1 := by omega
    go_enter Tryd.func10, Tryd.ntmps10
    go_wp2
    go_ret
    exact ⟨by rw [decide_eq_false (by omega)]; rfl, rfl⟩
theorem index_str {n : Nat} {t : TypeId} (ht : Tryd.prog.underlying t = some (.array n 9)) (cs : Array Value) (k : Nat) (hk : k < n) {v : Value} (hv : cs[k]? = some v) (w : World) :
    (Instr.index t (.agg cs) (.int .i64 (k : Int))).run Tryd.prog w = .ok v w := by
  have hp := run_part_plain (P := Tryd.prog) (e := 9) (by kernel_rfl) hv (w := w)
  have hz : (sizeOf 9).run Tryd.prog w = .ok 1 w := Tryd.sizeOf9 w
  simp [Instr.index, asIntOf, Sem.run_bind, run_underlying ht, Result.andThen, hz, hp, hk]
theorem refText_any (n : Int) (hl : lvl n = true) (w : World) : Calls Tryd.prog 12 #[.int .i64 n] w fun e w' => e = .returned (.string (txt n)) ∧ w' = w := by
  obtain ⟨h1, h2⟩ := lvl_of hl
  obtain ⟨k, rfl⟩ : ∃ k : Nat, n = k := ⟨n.toNat, by omega⟩
  have hk : k < 5 := by omega
  obtain ⟨s, hs⟩ : ∃ s, tx[k]? = some s := ⟨tx[k]'hk, List.getElem?_eq_getElem hk⟩
  have hidx := index_str (t := 50) (n := 5) (by kernel_rfl) #[.string ⟨#[]⟩, .string ⟨#[49]⟩, .string ⟨#[50]⟩, .string ⟨#[50, 46, 57, 57]⟩, .string ⟨#[51]⟩] k hk (v := .string s) (by
    have : (#[.string ⟨#[]⟩, .string ⟨#[49]⟩, .string ⟨#[50]⟩, .string ⟨#[50, 46, 57, 57]⟩, .string ⟨#[51]⟩] : Array Value) = (tx.map Value.string).toArray := rfl
    rw [this, List.getElem?_toArray, List.getElem?_map, hs]
    rfl) w
  have htx : txt (k : Int) = s := by unfold txt; rw [if_pos hl, Int.toNat_natCast, hs]; rfl
  replace hs := hide hs
  replace htx := hide htx
  replace hl := hide hl
  go_enter Tryd.func12, Tryd.ntmps12
  go_wp2
  go_ret
  exact ⟨by rw [htx.out]; rfl, rfl⟩
/-- the beginning of a text of guarantees -/
def pb (g k : Nat) : ByteArray := ⟨(Lib.join ((sel g k).map (·.data.toList)) [32]).toArray⟩
theorem pb_on : ∀ g, g < 16 → ∀ k, k < 4 → g.testBit k = true → pb g (k + 1) = (if pb g k = ⟨#[]⟩ then ((wd[k]?).getD ⟨#[]⟩) else pb g k ++ ⟨#[32]⟩ ++ ((wd[k]?).getD ⟨#[]⟩)) := by decide +kernel
theorem pb_off : ∀ g, g < 16 → ∀ k, k < 4 → g.testBit k = false → pb g (k + 1) = pb g k := by decide +kernel
theorem pb_size : ∀ g, g < 16 → ∀ k, k < 5 → (pb g k).size ≤ 20 := by decide +kernel
theorem half_bit : ∀ g : Nat, g < 16 → ∀ k : Nat, k < 4 → (((g / 2 ^ k : Nat) : Int) % 2 == 1) = g.testBit k := by decide +kernel
theorem half_next : ∀ g : Nat, g < 16 → ∀ k : Nat, k < 4 → g / 2 ^ k / 2 = g / 2 ^ (k + 1) := by decide +kernel
theorem pb_empty : ∀ g, g < 16 → ∀ k, k < 5 → pb g k ≠ ⟨#[]⟩ → 0 < (pb g k).size := by decide +kernel
theorem wd_size : ∀ k, k < 4 → ((wd[k]?).getD ⟨#[]⟩).size ≤ 3 := by decide +kernel
set_option maxHeartbeats 2000000 in
theorem refWords_any (g : Nat) (hg : g < 16) (w : World) : Calls Tryd.prog 14 #[.int .i64 g] w fun e w' => e = .returned (.string (wordsB g)) ∧ w' = w := by
  go_enter Tryd.func14, Tryd.ntmps14
  go_wp2
  go_loopw [0, 3, 7] (fun a o i wr => ∃ (k v : Nat) (t : ByteArray), k ≤ 4 ∧ i = .int .i64 k ∧ a = .int .i64 v ∧ o = .string t ∧ Hid (v = g / 2 ^ k) ∧ Hid (t = pb g k) ∧ wr = w) (fun _ _ i _ => 4 - (intOf i).toNat)
  case atStart => exact ⟨0, g, ⟨#[]⟩, by omega, rfl, rfl, rfl, hide (by simp), hide rfl, rfl⟩
  case round =>
    obtain ⟨k, v, t, hk, rfl, rfl, rfl, hv, ht, rfl⟩ := hrel
    by_cases hlt : k < 4
    · have hki : (k : Int) < 4 := by omega
      obtain ⟨s, hs⟩ : ∃ s, wd[k]? = some s := ⟨wd[k]'hlt, List.getElem?_eq_getElem hlt⟩
      have hidx := index_str (t := 51) (n := 4) (by kernel_rfl) #[.string ⟨#[114, 121, 119]⟩, .string ⟨#[109, 114]⟩, .string ⟨#[109, 119]⟩, .string ⟨#[119, 102, 114]⟩] k hlt (v := .string s) (by
        have : (#[.string ⟨#[114, 121, 119]⟩, .string ⟨#[109, 114]⟩, .string ⟨#[109, 119]⟩, .string ⟨#[119, 102, 114]⟩] : Array Value) = (wd.map Value.string).toArray := rfl
        rw [this, List.getElem?_toArray, List.getElem?_map, hs]
        rfl) wr
      have hbit := half_bit g hg k hlt
      have hnext := half_next g hg k hlt
      have hsz1 := pb_size g hg k (by omega)
      have hws := wd_size k hlt
      rw [hs] at hws
      replace hws : s.size ≤ 3 := hws
      rw [← hv.out] at hbit hnext
      rw [← ht.out] at hsz1
      have hvl : v ≤ 15 := by
        have := Nat.div_le_self g (2 ^ k)
        rw [← hv.out] at this
        omega
      have hw2 : IntKind.i64.wrap ((v : Int) / 2) = (v : Int) / 2 := IntWalk.i64_in _ (by omega)
      have hvn : Hid (v / 2 = g / 2 ^ (k + 1)) := hide hnext
      clear hnext
      cases hb : g.testBit k with
      | true =>
        have hon := pb_on g hg k hlt hb
        rw [hs] at hon
        rw [hb] at hbit
        replace hb := hide hb
        replace hs := hide hs
        by_cases he : t = ⟨#[]⟩
        · rw [← ht.out, if_pos he] at hon
          have hte : t.toList.isEmpty = true := by rw [he, Lib.toList_data]; rfl
          have hns : Hid (s = pb g (k + 1)) := hide hon.symm
          have htz : ¬ 9223372036854775807 < t.size + s.size := by omega
          have hts : t ++ s = s := by rw [he]; exact ByteArray.empty_append
          clear hon
          replace he := hide he
          go_wp2
          refine ⟨?_, ?_⟩
          · first
              | exact ⟨k + 1, v / 2, s, by omega, by go_num, congrArg (Value.int .i64) (by omega), rfl, hvn, hns, trivial⟩
              | ((repeat apply Exists.intro); exact ⟨⟨k + 1, v / 2, s, by omega, by go_num, congrArg (Value.int .i64) (by omega), rfl, hvn, hns, trivial⟩, rfl⟩)
          · first | (simp [intOf, lenV]; omega) | (simp [intOf]; omega) | (simp [intOf]; done)
        · have hte : t.toList.isEmpty = false := by
            cases hc : t.toList.isEmpty with
            | false => rfl
            | true =>
              exfalso
              apply he
              rw [List.isEmpty_iff, Lib.toList_data] at hc
              apply ByteArray.ext
              exact Array.toList_inj.1 hc
          rw [← ht.out, if_neg he] at hon
          have hns : Hid (t ++ ⟨#[32]⟩ ++ s = pb g (k + 1)) := hide hon.symm
          have h1 : ByteArray.size ⟨#[32]⟩ = 1 := rfl
          have htz : ¬ 9223372036854775807 < t.size + ByteArray.size ⟨#[32]⟩ := by omega
          have htz2 : ¬ 9223372036854775807 < (t ++ ⟨#[32]⟩).size + s.size := by rw [ByteArray.size_append]; omega
          clear hon
          replace he := hide he
          replace h1 := hide h1
          generalize hu : t ++ ⟨#[32]⟩ = u at *
          go_wp2
          refine ⟨?_, ?_⟩
          · first
              | exact ⟨k + 1, v / 2, u ++ s, by omega, by go_num, congrArg (Value.int .i64) (by omega), rfl, hvn, hns, trivial⟩
              | ((repeat apply Exists.intro); exact ⟨⟨k + 1, v / 2, u ++ s, by omega, by go_num, congrArg (Value.int .i64) (by omega), rfl, hvn, hns, trivial⟩, rfl⟩)
          · first | (simp [intOf, lenV]; omega) | (simp [intOf]; omega) | (simp [intOf]; done)
      | false =>
        have hoff := pb_off g hg k hlt hb
        rw [hb] at hbit
        replace hb := hide hb
        replace hs := hide hs
        have hns : Hid (t = pb g (k + 1)) := hide (by rw [hoff]; exact ht.out)
        clear hoff
        go_wp2
        refine ⟨?_, ?_⟩
        · first
            | exact ⟨k + 1, v / 2, t, by omega, by go_num, congrArg (Value.int .i64) (by omega), rfl, hvn, hns, trivial⟩
            | ((repeat apply Exists.intro); exact ⟨⟨k + 1, v / 2, t, by omega, by go_num, congrArg (Value.int .i64) (by omega), rfl, hvn, hns, trivial⟩, rfl⟩)
        · first | (simp [intOf, lenV]; omega) | (simp [intOf]; omega) | (simp [intOf]; done)
    · obtain rfl : k = 4 := by omega
      have hf : wordsB g = t := by rw [ht.out]; rfl
      replace hf := hide hf
      go_wp2
      go_ret
      exact ⟨by rw [hf.out]; rfl, rfl⟩
theorem refRead_any (s : ByteArray) (w : World) : Calls Tryd.prog 17 #[.string s] w fun e w' => e = .returned (.int .i64 (lev s)) ∧ w' = w := by
  go_enter Tryd.func17, Tryd.ntmps17
  go_wp2
  go_loopw [3] (fun i wr => ∃ k : Nat, 1 ≤ k ∧ k ≤ 5 ∧ i = .int .i64 k ∧ Hid (∀ j : Nat, 1 ≤ j → j < k → txt j ≠ s) ∧ wr = w) (fun i _ => 5 - (intOf i).toNat)
  case atStart => exact ⟨1, by omega, by omega, rfl, hide (fun j h1 h2 => by omega), rfl⟩
  case round =>
    obtain ⟨k, hk1, hk, rfl, hne, rfl⟩ := hrel
    by_cases hlt : k ≤ 4
    · have hki : (k : Int) ≤ 4 := by omega
      have hl : lvl (k : Int) = true := lvl_in (by omega) hki
      have heq := @eq_lists (txt k) s
      by_cases hw : txt k = s
      · have hv : lev s = k := by rw [← hw]; exact (lev_txt hl).1
        rw [decide_eq_true hw] at heq
        replace hv := hide hv
        replace hw := hide hw
        replace hl := hide hl
        clear hne
        go_wp2_with fail
        refine (refText_any k hl.out _).mono ?_
        rintro e w1 ⟨rfl, rfl⟩
        generalize txt (k : Int) = t at *
        go_wp2
        go_ret
        exact ⟨by rw [hv.out]; rfl, rfl⟩
      · have hne' : Hid (∀ j : Nat, 1 ≤ j → j < k + 1 → txt j ≠ s) := hide (fun j h1 h2 => by
          by_cases h : j = k
          · rw [h]; exact hw
          · exact hne.out j h1 (by omega))
        rw [decide_eq_false hw] at heq
        replace hw := hide hw
        replace hl := hide hl
        clear hne
        go_wp2_with fail
        refine (refText_any k hl.out _).mono ?_
        rintro e w1 ⟨rfl, rfl⟩
        generalize txt (k : Int) = t at *
        go_wp2
        refine ⟨?_, ?_⟩
        · first
            | exact ⟨k + 1, by omega, by omega, by go_num, hne', trivial⟩
            | ((repeat apply Exists.intro); exact ⟨⟨k + 1, by omega, by omega, by go_num, hne', trivial⟩, rfl⟩)
        · first | (simp [intOf, lenV]; omega) | (simp [intOf]; omega) | (simp [intOf]; done)
    · obtain rfl : k = 5 := by omega
      have hv : lev s = 0 := by
        cases hl : lvl (idxT s) with
        | false => unfold lev; rw [hl]; rfl
        | true =>
          have h1 := (txt_lev hl).1
          have h2 : lev s = idxT s := by unfold lev; rw [if_pos hl]
          obtain ⟨h3, h4⟩ := lvl_of hl
          rw [h2] at h1
          have := hne.out (idxT s).toNat (by omega) (by omega)
          rw [show (((idxT s).toNat : Nat) : Int) = idxT s by omega] at this
          exact absurd h1 this
      replace hv := hide hv
      clear hne
      go_wp2
      go_ret
      exact ⟨by rw [hv.out]; rfl, rfl⟩
def guaR (s : ByteArray) : Int := match gua s with | some g => g | none => -1
theorem refGuar_any (s : ByteArray) (w : World) : Calls Tryd.prog 18 #[.string s] w fun e w' => e = .returned (.int .i64 (guaR s)) ∧ w' = w := by
  go_enter Tryd.func18, Tryd.ntmps18
  go_wp2
  go_loopw [4] (fun i wr => ∃ k : Nat, k ≤ 16 ∧ i = .int .i64 k ∧ Hid (∀ j, j < k → wordsB j ≠ s) ∧ wr = w) (fun i _ => 16 - (intOf i).toNat)
  case atStart => exact ⟨0, by omega, rfl, hide (fun j hj => by omega), rfl⟩
  case round =>
    obtain ⟨k, hk, rfl, hb, rfl⟩ := hrel
    by_cases hlt : k < 16
    · have hki : (k : Int) < 16 := by omega
      have heq := @eq_lists (wordsB k) s
      by_cases hw : wordsB k = s
      · have hg := gua_at hlt hw hb.out
        have hn : guaR s = k := by unfold guaR; rw [hg]
        rw [decide_eq_true hw] at heq
        clear hb hg
        replace hw := hide hw
        replace hn := hide hn
        go_wp2_with fail
        refine (refWords_any k hlt _).mono ?_
        rintro e w1 ⟨rfl, rfl⟩
        generalize wordsB k = t at *
        go_wp2
        go_ret
        exact ⟨by rw [hn.out]; rfl, rfl⟩
      · rw [decide_eq_false hw] at heq
        have hb' : Hid (∀ j, j < k + 1 → wordsB j ≠ s) := hide (fun j hj => by
          by_cases h : j = k
          · rw [h]; exact hw
          · exact hb.out j (by omega))
        clear hb
        replace hw := hide hw
        go_wp2_with fail
        refine (refWords_any k hlt _).mono ?_
        rintro e w1 ⟨rfl, rfl⟩
        generalize wordsB k = t at *
        go_wp2
        refine ⟨?_, ?_⟩
        · first
            | exact ⟨k + 1, by omega, by go_num, hb', trivial⟩
            | ((repeat apply Exists.intro); exact ⟨⟨k + 1, by omega, by go_num, hb', trivial⟩, rfl⟩)
        · first | (simp [intOf, lenV]; omega) | (simp [intOf]; omega) | (simp [intOf]; done)
    · obtain rfl : k = 16 := by omega
      have hg := gua_none hb.out
      have hn : guaR s = -1 := by unfold guaR; rw [hg]
      clear hb hg
      replace hn := hide hn
      go_wp2
      go_ret
      exact ⟨by rw [hn.out]; rfl, rfl⟩
end Go.Proofs.YtbmcbbcgambflaaDoor
