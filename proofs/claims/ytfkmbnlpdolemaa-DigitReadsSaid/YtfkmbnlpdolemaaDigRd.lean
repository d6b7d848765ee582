/- DigitReads: numbers and their texts, and how texts begin. -/
import Derived.Test.YtfkmbnlpdolemaaDigR3
namespace Go.Proofs.Ytfkmbnlpdolemaa
open Go.RowKit Go.Lib

theorem not_looks_iff {L : List Int} (h : looksB L = true) : (readS L).2 ≠ 110 := by
  cases hc : (L.head? == some (45 : Int)) with
  | true =>
    cases L with
    | nil => cases h
    | cons x r =>
      have hx : x = 45 := by simpa using hc
      subst hx
      rw [(looked_neg h).read]
      split <;> simp
  | false =>
    rw [(looked_pos h hc).read]
    split <;> simp
set_option maxRecDepth 100000 in
set_option maxHeartbeats 4000000 in
theorem digitReads_any (A : Option Addr) (n c : Nat) (xs : List Int) (B : Option Addr) (m d : Nat) (ss : List ByteArray) (w : World) (hn : n = xs.length) (hn63 : n ≤ 9223372036854775807) (h : Rd intE w.heap.size w A xs) (hx : ∀ x ∈ xs, in64 x) (hm : m = ss.length) (h' : Rd strE w.heap.size w B ss) :
    Calls Try.prog 3 #[.slice A n c, .slice B m d] w fun e w' => e = .returned (.bool true) ∧ Ext w w' := by
  replace hn := hide hn
  replace h := hide h
  replace hx := hide hx
  replace hm := hide hm
  replace h' := hide h'
  go_enter Try.func3, Try.ntmps3
  go_wp2_with fail
  refine (wakes_any _).mono ?_
  rintro e w1 ⟨rfl, hE1⟩
  go_wp2
  go_loopw [22] (fun i wr => ∃ k : Nat, k ≤ n ∧ i = .int .i64 k ∧ Ext w wr) (fun i _ => n - (intOf i).toNat)
  case atStart => exact ⟨0, Nat.zero_le _, rfl, hE1⟩
  case round =>
    obtain ⟨k, hk, rfl, hB⟩ := hrel
    obtain ⟨hcc, hff⟩ := bcell hB
    have hsz := hB.size
    by_cases hlt : k < n
    · obtain ⟨b, off, rfl, hra⟩ := h.out.at_ (i := k) (by rw [← hn.out]; exact hlt)
      have hb1 := hra.1
      obtain ⟨p1, hp⟩ := get_some (xs := xs) (i := k) (by rw [← hn.out]; exact hlt)
      have hp1 := hra.int hp
      have hpin := hx.out _ (List.mem_of_getElem? hp)
      replace hp := hide hp
      replace hpin := hide hpin
      replace hra := hide hra
      have hw1 : IntKind.i64.wrap ((k : Int) + 1) = (k : Int) + 1 := IntWalk.i64_in _ (by omega)
      by_cases h20 : k < 20
      · go_wp2_with fail
        refine (text_any p1 hpin.out _).mono ?_
        rintro e w2 ⟨rfl, hE2⟩
        go_wp2_with fail
        refine (refText_any p1 hpin.out _).mono ?_
        rintro e w3 ⟨rfl, hE3⟩
        have hB' := hB.trans ((hE2.trans (hE3.mono hE2.size)).mono hsz)
        generalize bs (txt p1) = t at *
        go_wp2
        refine ⟨?_, ?_⟩
        · first
            | exact ⟨k + 1, by omega, by go_num, hB'⟩
            | ((repeat apply Exists.intro); exact ⟨⟨k + 1, by omega, by go_num, hB'⟩, rfl⟩)
        · first | (simp [intOf, lenV]; omega) | (simp [intOf]; omega)
      · have h20' : 20 ≤ k := by omega
        go_wp2
        refine ⟨?_, ?_⟩
        · first
            | exact ⟨k + 1, by omega, by go_num, hB⟩
            | ((repeat apply Exists.intro); exact ⟨⟨k + 1, by omega, by go_num, hB⟩, rfl⟩)
        · first | (simp [intOf, lenV]; omega) | (simp [intOf]; omega)
    · obtain rfl : k = n := by omega
      clear hcc hff
      go_wp2
      go_loopw [39] (fun i wr => ∃ j : Nat, j ≤ m ∧ j ≤ 20 ∧ i = .int .i64 j ∧ Ext w wr) (fun i _ => m - (intOf i).toNat)
      case atStart => exact ⟨0, Nat.zero_le _, by omega, rfl, hB⟩
      case round =>
        clear hB hsz
        obtain ⟨j, hj, hj20, rfl, hB⟩ := hrel
        obtain ⟨hcc, hff⟩ := bcell hB
        have hsz := hB.size
        by_cases hlt : j < m
        · obtain ⟨b, off, rfl, hra⟩ := h'.out.at_ (i := j) (by rw [← hm.out]; exact hlt)
          have hb1 := hra.1
          obtain ⟨p1, hp⟩ := get_some (xs := ss) (i := j) (by rw [← hm.out]; exact hlt)
          have hp1 := hra.str hp
          replace hp := hide hp
          replace hra := hide hra
          by_cases h20 : j = 20
          · subst h20
            go_wp2
            go_ret
            exact ⟨rfl, hB⟩
          · have h20' : ((j : Int) == 20) = false := by rw [beq_eq_false_iff_ne]; omega
            have hj21 : j + 1 ≤ 20 := by omega
            go_wp2_with fail
            refine (cut_any p1 _).mono ?_
            rintro e w2 ⟨rfl, rfl⟩
            have hcs := cutS_size p1
            generalize cutS p1 = t at *
            clear hp hp1 hra hcc hff hb1
            have hts : t.size ≤ 1000000000 := by omega
            go_wp2_with fail
            refine (read_any t hts _).mono ?_
            rintro e w3 ⟨rfl, hE3⟩
            have hB3 := hB.trans (hE3.mono hsz)
            have htx := read_err (nums t)
            cases hlk : looksB (nums t) with
            | false =>
              have hr := not_looks hlk
              rw [hr]
              replace hr := hide hr
              replace hlk := hide hlk
              clear htx
              go_wp2_with fail
              refine (looks_any (t.size + 1) t (by omega) hts _).mono ?_
              rintro e w4 ⟨rfl, rfl⟩
              rw [hlk.out]
              go_wp2_with fail
              refine (head_any t hts _).mono ?_
              rintro e w5 ⟨rfl, hE5⟩
              have hB5 := hB3.trans (hE5.mono hB3.size)
              generalize hkk : headEnd (nums t) = hk at *
              generalize hta : t.extract 0 hk = ta at *
              generalize htb : t.extract hk t.size = tb at *
              subst hkk
              replace hta := hide hta
              replace htb := hide htb
              go_wp2_with fail
              refine (refHead_any t hts _).mono ?_
              rintro e w6 ⟨rfl, hE6⟩
              have hB6 := hB5.trans (hE6.mono hB5.size)
              rw [hta.out, htb.out]
              go_wp2
              refine ⟨?_, ?_⟩
              · first
                  | exact ⟨j + 1, hlt, hj21, by go_num, hB6⟩
                  | ((repeat apply Exists.intro); exact ⟨⟨j + 1, hlt, hj21, by go_num, hB6⟩, rfl⟩)
              · first | (simp [intOf, lenV]; omega) | (simp [intOf]; omega)
            | true =>
              go_wp2_with fail
              refine (looks_any (t.size + 1) t (by omega) hts _).mono ?_
              rintro e w4 ⟨rfl, rfl⟩
              rw [hlk]
              go_wp2_with fail
              refine (refRead_any t hts hlk _).mono ?_
              rintro e w4 ⟨rfl, rfl⟩
              have hne110 : (readS (nums t)).2 ≠ 110 := by
                intro e
                have := not_looks_iff hlk
                exact this e
              obtain ⟨rs, hrs⟩ : ∃ rs, rs = readS (nums t) := ⟨_, rfl⟩
              rw [← hrs] at htx hne110 ⊢
              replace hrs := hide hrs
              replace hlk := hide hlk
              obtain ⟨r1, r2⟩ := rs
              rcases htx with h0 | h0 | h0
              · simp only at h0
                subst h0
                clear hne110
                go_wp2_with fail
                refine (head_any t hts _).mono ?_
                rintro e w5 ⟨rfl, hE5⟩
                have hB5 := hB3.trans (hE5.mono hB3.size)
                generalize hkk : headEnd (nums t) = hk at *
                generalize hta : t.extract 0 hk = ta at *
                generalize htb : t.extract hk t.size = tb at *
                subst hkk
                replace hta := hide hta
                replace htb := hide htb
                go_wp2_with fail
                refine (refHead_any t hts _).mono ?_
                rintro e w6 ⟨rfl, hE6⟩
                have hB6 := hB5.trans (hE6.mono hB5.size)
                rw [hta.out, htb.out]
                go_wp2
                refine ⟨?_, ?_⟩
                · first
                    | exact ⟨j + 1, hlt, hj21, by go_num, hB6⟩
                    | ((repeat apply Exists.intro); exact ⟨⟨j + 1, hlt, hj21, by go_num, hB6⟩, rfl⟩)
                · first | (simp [intOf, lenV]; omega) | (simp [intOf]; omega)
              · rw [h0] at hne110
                exact absurd rfl hne110
              · injection h0 with e1 e2
                subst e1 e2
                clear hne110
                go_wp2_with fail
                refine (head_any t hts _).mono ?_
                rintro e w5 ⟨rfl, hE5⟩
                have hB5 := hB3.trans (hE5.mono hB3.size)
                generalize hkk : headEnd (nums t) = hk at *
                generalize hta : t.extract 0 hk = ta at *
                generalize htb : t.extract hk t.size = tb at *
                subst hkk
                replace hta := hide hta
                replace htb := hide htb
                go_wp2_with fail
                refine (refHead_any t hts _).mono ?_
                rintro e w6 ⟨rfl, hE6⟩
                have hB6 := hB5.trans (hE6.mono hB5.size)
                rw [hta.out, htb.out]
                go_wp2
                refine ⟨?_, ?_⟩
                · first
                    | exact ⟨j + 1, hlt, hj21, by go_num, hB6⟩
                    | ((repeat apply Exists.intro); exact ⟨⟨j + 1, hlt, hj21, by go_num, hB6⟩, rfl⟩)
                · first | (simp [intOf, lenV]; omega) | (simp [intOf]; omega)
        · obtain rfl : j = m := by omega
          go_wp2
          go_ret
          exact ⟨rfl, hB⟩
end Go.Proofs.Ytfkmbnlpdolemaa
