/- The document's Spell. -/
import Derived.Test.YtlianjnmfgakkaaDoorLexZ
namespace Go.Proofs.YtlianjnmfgakkaaDoor
open Go.RowKit

theorem spell_sep {b : Bool} {t : Tok} {l : List Tok} (h : (!b && (!t.glued && !decide (t.kind = 4))) = true) : spellF b (t :: l) = ⟨#[32]⟩ ++ (t.text ++ spellF (decide (t.kind = 4)) l) := by
  conv => lhs; unfold spellF
  rw [if_pos h, ByteArray.append_assoc]
theorem spell_no {b : Bool} {t : Tok} {l : List Tok} (h : (!b && (!t.glued && !decide (t.kind = 4))) = false) : spellF b (t :: l) = t.text ++ spellF (decide (t.kind = 4)) l := by
  conv => lhs; unfold spellF
  rw [if_neg (by rw [h]; decide), ByteArray.append_assoc]
  exact ByteArray.empty_append
set_option maxRecDepth 100000 in
set_option maxHeartbeats 4000000 in
theorem refSpell_any (A : Option Addr) (n c : Nat) (l : List Tok) (w : World) (h : Rd tokE w.heap.size w A l) (hn : n = l.length) (hl : n < 1000000) (hs : ∀ t ∈ l, t.text.size ≤ 1000000) :
    Calls Tryd.prog 20 #[.slice A n c] w fun e w' => e = .returned (.string (spellN l)) ∧ Ext w w' := by
  obtain ⟨S, hS⟩ : ∃ S, S = spellN l := ⟨_, rfl⟩
  have hS0 : Hid ((⟨#[]⟩ : ByteArray) ++ spellF true (l.drop 0) = S) := hide (by rw [hS, List.drop_zero]; exact ByteArray.empty_append)
  rw [← hS]
  replace h := hide h
  replace hS := hide hS
  replace hn := hide hn
  go_enter Tryd.func20, Tryd.ntmps20
  go_wp2
  go_loopw [3, 8] (fun o i wr => ∃ (k : Nat) (bg : Bool) (out : ByteArray), k ≤ n ∧ i = .int .i64 (k : Int) ∧ o = .string out ∧ Hid ((k = 0 ∧ bg = true) ∨ (∃ t, 0 < k ∧ l[k - 1]? = some t ∧ bg = decide (t.kind = 4))) ∧ Hid (out ++ spellF bg (l.drop k) = S) ∧ Hid (out.size ≤ k * 1000001 ∧ k ≤ 1000000) ∧ Ext w wr) (fun _ i _ => n - (intOf i).toNat)
  case atStart => exact ⟨0, true, _, Nat.zero_le _, rfl, rfl, hide (.inl ⟨rfl, rfl⟩), hS0, hide ⟨Nat.le_refl _, by decide⟩, Below.refl _ _⟩
  case round =>
    clear hS0
    obtain ⟨k, bg, out, hkn, rfl, rfl, hpv, hst, hk, hB⟩ := hrel
    by_cases hlt : k < n
    · have hlt' : (k : Int) < (n : Int) := by omega
      obtain ⟨bk, off, rfl, ra⟩ := h.out.at_ (i := k) (by rw [← hn.out]; exact hlt)
      obtain ⟨⟨kd, pl, tx, gl⟩, hx⟩ := get_some (xs := l) (i := k) (by rw [← hn.out]; exact hlt)
      obtain ⟨x1, x2, x3, x4⟩ := (ra.ext hB).tok hx
      have hbk := Nat.lt_of_lt_of_le ra.1 hB.size
      have hdr : Hid (l.drop k = (⟨kd, pl, tx, gl⟩ : Tok) :: l.drop (k + 1)) := hide (by rw [List.drop_eq_getElem_cons (by rw [← hn.out]; exact hlt)]; congr 1; exact (List.getElem?_eq_some_iff.1 hx).2)
      have htx : tx.size ≤ 1000000 := hs _ (List.mem_of_getElem? hx)
      replace hx := hide hx
      obtain ⟨wb, hwb⟩ : ∃ x, x = wr.alloc (.cells #[.int .i64 kd, .int .i64 pl, .string tx, .bool gl] 29) := ⟨_, rfl⟩
      have X5 : BoxN wb wr.heap.size 29 #[.int .i64 kd, .int .i64 pl, .string tx, .bool gl] := by rw [hwb]; exact BoxN.new _ _ _
      have hB2 : Ext w wb := by rw [hwb]; exact hB.alloc hB.size _
      go_upto_region 5 with fail
      rw [← hwb]
      clear hwb hB x1 x2 x3 x4 hbk
      obtain ⟨p5, hp5⟩ : ∃ b, b = wr.heap.size := ⟨_, rfl⟩
      rw [← hp5] at X5 ⊢
      clear hp5
      have s5 := X5.lt
      have y50 := X5.cell 0 (v := .int .i64 kd) rfl
      have y52 := X5.cell 2 (v := .string tx) rfl
      have y53 := X5.cell 3 (v := .bool gl) rfl
      have hbk := Nat.lt_of_lt_of_le ra.1 hB2.size
      replace X5 := hide X5
      by_cases h0 : k = 0
      · have hbg : bg = true := by
          rcases hpv.out with ⟨_, h⟩ | ⟨_, h, _⟩
          · exact h
          · omega
        subst hbg
        have h0' : ¬ (0 : Int) < (k : Int) := by omega
        replace ra := hide ra
        replace h0 := hide h0
        have hsz : ¬ 9223372036854775807 < out.size + tx.size := by have := hk.out; omega
        have hst2 : Hid ((out ++ tx) ++ spellF (decide (kd = 4)) (l.drop (k + 1)) = S) := hide (by rw [← hst.out, hdr.out, spell_no (t := ⟨kd, pl, tx, gl⟩) rfl, ByteArray.append_assoc])
        have hk2 : Hid ((out ++ tx).size ≤ (k + 1) * 1000001 ∧ k + 1 ≤ 1000000) := hide ⟨by rw [ByteArray.size_append, Nat.add_mul]; have := hk.out; omega, by omega⟩
        have hpv2 : Hid ((k + 1 = 0 ∧ decide (kd = 4) = true) ∨ (∃ t, 0 < k + 1 ∧ l[k + 1 - 1]? = some t ∧ decide (kd = 4) = decide (t.kind = 4))) := hide (.inr ⟨_, by omega, hx.out, rfl⟩)
        obtain ⟨b2, hb2⟩ : ∃ b, b = decide (kd = 4) := ⟨_, rfl⟩
        rw [← hb2] at hpv2 hst2
        replace hb2 := hide hb2
        clear hst hpv
        go_wp2
        refine ⟨?_, ?_⟩
        · first
            | exact ⟨k + 1, b2, _, by omega, by go_num, rfl, hpv2, hst2, hk2, hB2⟩
            | ((repeat apply Exists.intro); exact ⟨⟨k + 1, b2, _, by omega, by go_num, rfl, hpv2, hst2, hk2, hB2⟩, rfl⟩)
        · first | (simp [intOf, lenV]; omega) | (simp [intOf]; omega) | (simp [intOf]; done)
      · have h0' : (0 : Int) < (k : Int) := by omega
        obtain ⟨tp, htp, hbg⟩ : ∃ t, l[k - 1]? = some t ∧ bg = decide (t.kind = 4) := by
          rcases hpv.out with ⟨h, _⟩ | ⟨t, _, h1, h2⟩
          · omega
          · exact ⟨t, h1, h2⟩
        obtain ⟨j, hj⟩ : ∃ j, j = k - 1 := ⟨_, rfl⟩
        rw [← hj] at htp
        have hjn : j < n := by omega
        have hjn' : (j : Int) < (n : Int) := by omega
        have u1 : IntKind.i64.wrap ((k : Int) - 1) = (j : Int) := by rw [IntWalk.i64_in _ (by omega)]; omega
        have z1 := ((ra.ext hB2).tok htp).1
        obtain ⟨pk, hpk⟩ : ∃ z, z = tp.kind := ⟨_, rfl⟩
        rw [← hpk] at z1 hbg
        replace ra := hide ra
        replace hj := hide hj
        replace htp := hide htp
        replace hpk := hide hpk
        cases gl with
        | true =>
          replace hbg := hide hbg
          have hsz : ¬ 9223372036854775807 < out.size + tx.size := by have := hk.out; omega
          have hst2 : Hid ((out ++ tx) ++ spellF (decide (kd = 4)) (l.drop (k + 1)) = S) := hide (by rw [← hst.out, hdr.out, spell_no (t := ⟨kd, pl, tx, true⟩) (by simp), ByteArray.append_assoc])
          have hk2 : Hid ((out ++ tx).size ≤ (k + 1) * 1000001 ∧ k + 1 ≤ 1000000) := hide ⟨by rw [ByteArray.size_append, Nat.add_mul]; have := hk.out; omega, by omega⟩
          have hpv2 : Hid ((k + 1 = 0 ∧ decide (kd = 4) = true) ∨ (∃ t, 0 < k + 1 ∧ l[k + 1 - 1]? = some t ∧ decide (kd = 4) = decide (t.kind = 4))) := hide (.inr ⟨_, by omega, hx.out, rfl⟩)
          obtain ⟨b2, hb2⟩ : ∃ b, b = decide (kd = 4) := ⟨_, rfl⟩
          rw [← hb2] at hpv2 hst2
          replace hb2 := hide hb2
          clear hst hpv
          go_wp2
          refine ⟨?_, ?_⟩
          · first
              | exact ⟨k + 1, b2, _, by omega, by go_num, rfl, hpv2, hst2, hk2, hB2⟩
              | ((repeat apply Exists.intro); exact ⟨⟨k + 1, b2, _, by omega, by go_num, rfl, hpv2, hst2, hk2, hB2⟩, rfl⟩)
          · first | (simp [intOf, lenV]; omega) | (simp [intOf]; omega) | (simp [intOf]; done)
        | false =>
          by_cases h4 : kd = 4
          · have e4 : (kd == 4) = true := by rw [h4]; rfl
            replace hbg := hide hbg
            have hsep := hide (spell_no (b := bg) (t := ⟨kd, pl, tx, false⟩) (l := l.drop (k + 1)) (by simp [h4]))
            have h4h := hide h4
            subst h4
            have e44 : decide ((4 : Int) = 4) = true := rfl
            have hsz : ¬ 9223372036854775807 < out.size + tx.size := by have := hk.out; omega
            have hst2 : Hid ((out ++ tx) ++ spellF true (l.drop (k + 1)) = S) := hide (by rw [← hst.out, hdr.out, hsep.out, ByteArray.append_assoc]; rfl)
            have hk2 : Hid ((out ++ tx).size ≤ (k + 1) * 1000001 ∧ k + 1 ≤ 1000000) := hide ⟨by rw [ByteArray.size_append, Nat.add_mul]; have := hk.out; omega, by omega⟩
            have hpv2 : Hid ((k + 1 = 0 ∧ true = true) ∨ (∃ t, 0 < k + 1 ∧ l[k + 1 - 1]? = some t ∧ true = decide (t.kind = 4))) := hide (.inr ⟨_, by omega, hx.out, rfl⟩)
            clear hst hpv
            go_wp2
            refine ⟨?_, ?_⟩
            · first
                | exact ⟨k + 1, true, _, by omega, by go_num, rfl, hpv2, hst2, hk2, hB2⟩
                | ((repeat apply Exists.intro); exact ⟨⟨k + 1, true, _, by omega, by go_num, rfl, hpv2, hst2, hk2, hB2⟩, rfl⟩)
            · first | (simp [intOf, lenV]; omega) | (simp [intOf]; omega) | (simp [intOf]; done)
          · have e4 : (kd == 4) = false := beq_eq_false_iff_ne.2 h4
            have e4' : (kd != 4) = true := by rw [bne, e4]; rfl
            by_cases hp4 : pk = 4
            · rw [decide_eq_true hp4] at hbg
              subst hbg
              replace h4 := hide h4
              subst hp4
              have hsz : ¬ 9223372036854775807 < out.size + tx.size := by have := hk.out; omega
              have hst2 : Hid ((out ++ tx) ++ spellF (decide (kd = 4)) (l.drop (k + 1)) = S) := hide (by rw [← hst.out, hdr.out, spell_no (t := ⟨kd, pl, tx, false⟩) rfl, ByteArray.append_assoc])
              have hk2 : Hid ((out ++ tx).size ≤ (k + 1) * 1000001 ∧ k + 1 ≤ 1000000) := hide ⟨by rw [ByteArray.size_append, Nat.add_mul]; have := hk.out; omega, by omega⟩
              have hpv2 : Hid ((k + 1 = 0 ∧ decide (kd = 4) = true) ∨ (∃ t, 0 < k + 1 ∧ l[k + 1 - 1]? = some t ∧ decide (kd = 4) = decide (t.kind = 4))) := hide (.inr ⟨_, by omega, hx.out, rfl⟩)
              obtain ⟨b2, hb2⟩ : ∃ b, b = decide (kd = 4) := ⟨_, rfl⟩
              rw [← hb2] at hpv2 hst2
              replace hb2 := hide hb2
              clear hst hpv
              go_wp2
              refine ⟨?_, ?_⟩
              · first
                  | exact ⟨k + 1, b2, _, by omega, by go_num, rfl, hpv2, hst2, hk2, hB2⟩
                  | ((repeat apply Exists.intro); exact ⟨⟨k + 1, b2, _, by omega, by go_num, rfl, hpv2, hst2, hk2, hB2⟩, rfl⟩)
              · first | (simp [intOf, lenV]; omega) | (simp [intOf]; omega) | (simp [intOf]; done)
            · rw [decide_eq_false hp4] at hbg
              subst hbg
              have f4 : (pk == 4) = false := beq_eq_false_iff_ne.2 hp4
              have f4' : (pk != 4) = true := by rw [bne, f4]; rfl
              have hsep := hide (spell_sep (b := false) (t := ⟨kd, pl, tx, false⟩) (l := l.drop (k + 1)) (by simp [h4]))
              replace h4 := hide h4
              replace hp4 := hide hp4
              have hs1 : ByteArray.size ⟨#[32]⟩ = 1 := rfl
              have hsz1 : ¬ 9223372036854775807 < out.size + ByteArray.size ⟨#[32]⟩ := by have := hk.out; omega
              have hsz : ¬ 9223372036854775807 < (out ++ ⟨#[32]⟩).size + tx.size := by rw [ByteArray.size_append]; have := hk.out; omega
              have hst2 : Hid (((out ++ ⟨#[32]⟩) ++ tx) ++ spellF (decide (kd = 4)) (l.drop (k + 1)) = S) := hide (by rw [← hst.out, hdr.out, hsep.out, ByteArray.append_assoc, ByteArray.append_assoc])
              have hk2 : Hid (((out ++ ⟨#[32]⟩) ++ tx).size ≤ (k + 1) * 1000001 ∧ k + 1 ≤ 1000000) := hide ⟨by rw [ByteArray.size_append, ByteArray.size_append, Nat.add_mul]; have := hk.out; omega, by omega⟩
              have hpv2 : Hid ((k + 1 = 0 ∧ decide (kd = 4) = true) ∨ (∃ t, 0 < k + 1 ∧ l[k + 1 - 1]? = some t ∧ decide (kd = 4) = decide (t.kind = 4))) := hide (.inr ⟨_, by omega, hx.out, rfl⟩)
              obtain ⟨b2, hb2⟩ : ∃ b, b = decide (kd = 4) := ⟨_, rfl⟩
              rw [← hb2] at hpv2 hst2
              obtain ⟨o2, ho2⟩ : ∃ o, o = (out ++ ⟨#[32]⟩) ++ tx := ⟨_, rfl⟩
              rw [← ho2] at hst2 hk2
              have ho2' := ho2.symm
              replace ho2 := hide ho2
              replace hb2 := hide hb2
              clear hst hpv
              go_wp2
              refine ⟨?_, ?_⟩
              · first
                  | exact ⟨k + 1, b2, o2, by omega, by go_num, rfl, hpv2, hst2, hk2, hB2⟩
                  | ((repeat apply Exists.intro); exact ⟨⟨k + 1, b2, o2, by omega, by go_num, rfl, hpv2, hst2, hk2, hB2⟩, rfl⟩)
              · first | (simp [intOf, lenV]; omega) | (simp [intOf]; omega) | (simp [intOf]; done)
    · have hlt' : ¬ (k : Int) < (n : Int) := by omega
      have hfin : Hid (out = S) := hide (by
        have := hst.out
        rw [List.drop_of_length_le (by have := hn.out; omega)] at this
        rw [← this]
        exact ByteArray.append_empty.symm)
      go_wp2
      go_ret
      refine ⟨?_, hB⟩
      rw [hfin.out]
      try rfl
end Go.Proofs.YtlianjnmfgakkaaDoor
