/- LexAll's walk. -/
import Derived.Test.YtlianjnmfgakkaaDoorLexS
import Derived.Test.YtlianjnmfgakkaaDoorLexM
import Derived.Test.YtlianjnmfgakkaaDoorLexW
import Derived.Test.YtlianjnmfgakkaaDoorMixL
namespace Go.Proofs.YtlianjnmfgakkaaDoor
open Go.RowKit Go.Shelf
attribute [local go_sem] Oper.semAt_some

theorem wp_only {P : Program} {c : Code} {Q : Exit → Act → World → Prop} {a : Act} {w : World} (h : c.wp P (fun e a w => e = .normal ∧ Q .normal a w) a w) : c.wp P Q a w := wp_mono h (by rintro e a w ⟨rfl, h⟩; exact h)
theorem run_len (s : ByteArray) : ∀ n p, p ≤ s.size → s.size - p ≤ n → (runN s p).1.length ≤ s.size - p := by
  intro n
  induction n with
  | zero =>
    intro p hp h
    have hc := next_cases s p hp
    by_cases h0 : (nextN s p).2.2 = 0
    · by_cases h5 : (nextN s p).1.kind = 5
      · rw [run_stop hp h0 h5]; exact Nat.zero_le _
      · have := hc.2 h0 h5; omega
    · rw [run_err hp h0]; exact Nat.zero_le _
  | succ n ih =>
    intro p hp h
    have hc := next_cases s p hp
    by_cases h0 : (nextN s p).2.2 = 0
    · by_cases h5 : (nextN s p).1.kind = 5
      · rw [run_stop hp h0 h5]; exact Nat.zero_le _
      · have h1 := hc.2 h0 h5
        have h2 := ih _ h1.2 (by omega)
        rw [run_more hp h0 h5]
        split
        · simp only [List.length_cons]; omega
        · exact Nat.zero_le _
    · rw [run_err hp h0]; exact Nat.zero_le _
theorem all_len (s : ByteArray) : (allN s).1.length ≤ s.size := run_len s s.size 0 (Nat.zero_le _) (Nat.le_refl _)
def shortT (t : Tok) : Tok := { t with text := t.text.extract 0 (min t.text.size 40) }
def headN (l : List Tok) (k : Nat) : List Tok := (l.take k).map shortT ++ l.drop k
theorem headN_zero (l : List Tok) : headN l 0 = l := by unfold headN; simp
theorem headN_len (l : List Tok) (k : Nat) : (headN l k).length = l.length := by
  unfold headN
  rw [List.length_append, List.length_map, List.length_take, List.length_drop]
  omega
theorem headN_at {l : List Tok} {k : Nat} {t : Tok} (h : l[k]? = some t) : (headN l k)[k]? = some t := by
  have hk := (List.getElem?_eq_some_iff.1 h).1
  unfold headN
  rw [List.getElem?_append_right (by simp only [List.length_map, List.length_take]; omega), List.getElem?_drop, List.length_map, List.length_take, show k + (k - min k l.length) = k by omega]
  exact h
theorem headN_set {l : List Tok} {k : Nat} {t : Tok} (h : l[k]? = some t) : (headN l k).set k (shortT t) = headN l (k + 1) := by
  have hk := (List.getElem?_eq_some_iff.1 h).1
  have ht := (List.getElem?_eq_some_iff.1 h).2
  unfold headN
  rw [List.set_append_right _ _ (by simp only [List.length_map, List.length_take]; omega), List.length_map, List.length_take, show k - min k l.length = 0 by omega, List.drop_eq_getElem_cons hk, ht, List.set_cons_zero, List.take_add_one, h, Option.toList_some, List.map_append, List.map_singleton, List.append_assoc]
  rfl
theorem headN_text {l : List Tok} {k : Nat} (hk : l.length ≤ k) {t : Tok} (h : t ∈ headN l k) : t.text.size ≤ 40 := by
  unfold headN at h
  rw [List.drop_of_length_le hk, List.append_nil, List.mem_map] at h
  obtain ⟨x, _, rfl⟩ := h
  show (x.text.extract 0 (min x.text.size 40)).size ≤ 40
  rw [ByteArray.size_extract]
  omega
theorem tokRow_set : ∀ (xs : List Tok) (i : Nat) (t : Tok) (y : ByteArray), xs[i]? = some t → tokE.row (xs.set i { t with text := y }) = (tokE.row xs).set (i * 4 + 2) (.string y)
  | [], _, _, _, h => by cases h
  | x :: xs, 0, t, y, h => by
    injection h with h
    subst h
    rw [List.set_cons_zero, El.row_cons, El.row_cons]
    rfl
  | x :: xs, i + 1, t, y, h => by
    rw [List.set_cons_succ, El.row_cons, El.row_cons, tokRow_set xs i t y h, show (i + 1) * 4 + 2 = (i * 4 + 2) + 1 + 1 + 1 + 1 by omega]
    rfl
theorem Own.setTok {e : TypeId} {base : Nat} {w : World} {A : Option Addr} {n c : Nat} {xs : List Tok} (h : Own tokE e base w (.slice A n c) xs) {i : Nat} {t : Tok} (hi : xs[i]? = some t) (y : ByteArray) :
    ∃ g, A = some ⟨g, 0, none⟩ ∧ base ≤ g ∧ g < w.heap.size ∧ w.cell? ⟨g, i * 4 + 2, none⟩ = some (.string t.text) ∧ w.frozen? ⟨g, i * 4 + 2, none⟩ = false ∧ Own tokE e base (w.setCell ⟨g, i * 4 + 2, none⟩ (.string y)) (.slice A n c) (xs.set i { t with text := y }) := by
  have hil := (List.getElem?_eq_some_iff.1 hi).1
  obtain ⟨A', c', hv, hrd, -, -⟩ := h.rd
  injection hv with hv1 hv2 hv3
  obtain ⟨hl, h2⟩ := h
  rcases h2 with ⟨h1, h2⟩ | ⟨g, cap, cur, h1, hb, hg, hnc, hcm, hsz, hcur⟩
  · injection h1 with h3 h4 h5
    omega
  · injection h1 with h3 h4 h5
    subst h3 h5 hv1
    have hgs : g < w.heap.size := by
      rcases Nat.lt_or_ge g w.heap.size with hlt | hge
      · exact hlt
      · rw [Array.getElem?_eq_none hge] at hg
        cases hg
    have hic : i * 4 + 2 < cur.size := by rw [hsz]; show i * 4 + 2 < _ * 4; omega
    refine ⟨g, rfl, hb, hgs, ?_, ?_, ?_⟩
    · obtain ⟨b, off, he, ra⟩ := hrd.at_ hil
      injection he with he
      injection he with he1 he2
      subst he1 he2
      have := (ra.tok hi).2.2.1
      rwa [Nat.zero_add] at this
    · unfold World.frozen?
      rw [hg]
      simp
    unfold Own
    rw [List.length_set]
    refine ⟨by rw [El.row_length, List.length_set], .inr ⟨g, c, cur.setIfInBounds (i * 4 + 2) (.string y), by rw [h4], hb, ?_, by omega, hcm, by rw [Array.size_setIfInBounds]; exact hsz, ?_⟩⟩
    · show (w.heap.modify g _)[g]? = _
      rw [Array.getElem?_modify, if_pos rfl, hg]
      rfl
    · rw [Array.toList_setIfInBounds, List.take_set, hcur, tokRow_set xs i t y hi]
set_option maxRecDepth 100000 in
set_option maxHeartbeats 4000000 in
theorem lexAll_any (A : Option Addr) (n c : Nat) (xs : List ByteArray) (B : Option Addr) (m d : Nat) (l : List Tok) (w : World) (hn : n = xs.length) (hm : n ≤ maxLen) (h : Rd strE w.heap.size w A xs) (hs : ∀ x ∈ xs, x.size ≤ maxLen)
    (hn' : m = l.length) (hmd : m ≤ d) (hm' : d ≤ maxLen) (h' : Rd tokE w.heap.size w B l) (hs' : ∀ x ∈ l, x.text.size ≤ maxLen) (hU : LaidU w) :
    Calls Tryd.prog 7 #[.slice A n c, .slice B m d] w fun e w' => e = .returned (.bool true) ∧ Ext w w' := by
  have hm63 : n ≤ 9223372036854775807 := hm
  have hd63 : d ≤ 9223372036854775807 := hm'
  replace hn := hide hn
  replace h := hide h
  replace hU := hide hU
  replace hn' := hide hn'
  replace h' := hide h'
  go_enter Tryd.func7, Tryd.ntmps7
  go_wp2_with fail
  refine (wakes_any _ hU.out).mono ?_
  rintro e w1 ⟨rfl, hE1⟩
  go_upto_block 0 with fail
  go_cut [5] from 6 to 55 (fun s5 wx => Ext w wx)
  case first =>
    go_wp2
    go_loopw [19] (fun i wr => ∃ k : Nat, k ≤ n ∧ i = .int .i64 (k : Int) ∧ Ext w wr) (fun i _ => n - (intOf i).toNat)
    case atStart => exact ⟨0, Nat.zero_le _, rfl, hE1⟩
    case round =>
      clear hE1
      obtain ⟨k, hk, rfl, hB⟩ := hrel
      by_cases hlt : k < n
      · have hlt' : (k : Int) < (n : Int) := by omega
        obtain ⟨bk, off, rfl, ra⟩ := h.out.at_ (i := k) (by rw [← hn.out]; exact hlt)
        obtain ⟨x, hx⟩ := get_some (xs := xs) (i := k) (by rw [← hn.out]; exact hlt)
        have x1 := (ra.ext hB).str1 hx
        have hbk := Nat.lt_of_lt_of_le ra.1 hB.size
        have hxm := hs _ (List.mem_of_getElem? hx)
        replace ra := hide ra
        replace hx := hide hx
        by_cases h5 : k = 5
        · subst h5
          go_wp2
          go_meet
          case rel => exact hB
        · have e5 : ((k : Int) == 5) = false := by rw [beq_eq_false_iff_ne]; omega
          have e5' : ¬ (k : Int) = 5 := by omega
          replace h5 := hide h5
          have hcz := cutN_size x
          have hcut := cut_any x hxm
          obtain ⟨t, ht⟩ : ∃ t, t = cutN x := ⟨_, rfl⟩
          rw [← ht] at hcz hcut
          replace ht := hide ht
          replace hcut := hide hcut
          go_wp2_with fail
          refine (hcut.out _).mono ?_
          rintro e w2 ⟨rfl, hw⟩
          rw [hw]
          clear hw x1 hbk
          go_wp2_with fail
          refine (all_any t (by omega) _ (hU.out.ext hB)).mono ?_
          rintro e w3 ⟨A1, n1, c1, rfl, hO1, hE1⟩
          have hB3 := hB.trans (hE1.mono hB.size)
          have hln := all_len t
          obtain ⟨L, hL⟩ : ∃ L, L = allN t := ⟨_, rfl⟩
          rw [← hL] at hO1 hln
          obtain ⟨L, pc, er⟩ := L
          simp only at hO1 hln
          rw [show (allN t).2.1 = pc from by rw [← hL], show (allN t).2.2 = er from by rw [← hL]]
          clear hE1 hB
          replace hO1 := hide hO1
          go_wp2_with fail
          refine (refAll_any t (by omega) _).mono ?_
          rintro e w4 ⟨A2, n2, c2, rfl, hO2, hE2⟩
          rw [← hL] at hO2
          simp only at hO2
          rw [show (allN t).2.1 = pc from by rw [← hL], show (allN t).2.2 = er from by rw [← hL]]
          have hB4 := hB3.trans (hE2.mono hB3.size)
          have hO1' := hO1.out.ext hE2
          obtain ⟨A1', c1', hv1, hr1, -, -⟩ := hO1'.rd
          injection hv1 with hv1 hv2 hv3
          subst hv1 hv2 hv3
          obtain ⟨A2', c2', hv1, hr2, -, -⟩ := hO2.rd
          injection hv1 with hv1 hv2 hv3
          subst hv1 hv2 hv3
          clear hE2 hB3 hO1 hO1' hO2
          replace hr1 := hide hr1
          replace hr2 := hide hr2
          replace hL := hide hL
          have b1 : ((pc : Int) != (pc : Int)) = false := by simp
          have b2 : ((er : Int) != (er : Int)) = false := by simp
          have hdd : decide (L = L) = true := by simp
          go_wp2_with fail
          refine (equal_Tok _ _ _ _ _ _ L L _ rfl hr1.out rfl hr2.out (by omega)).mono ?_
          rintro e w5 ⟨rfl, hE3⟩
          have hB5 := hB4.trans (hE3.mono hB4.size)
          clear hE3 hB4 hr1 hr2
          go_wp2
          refine ⟨?_, ?_⟩
          · first
              | exact ⟨k + 1, by omega, by go_num, hB5⟩
              | ((repeat apply Exists.intro); exact ⟨⟨k + 1, by omega, by go_num, hB5⟩, rfl⟩)
          · first | (simp [intOf, lenV]; omega) | (simp [intOf]; omega) | (simp [intOf]; done)
      · have hlt' : ¬ (k : Int) < (n : Int) := by omega
        go_wp2
        go_meet
        case rel => exact hB
  case rest =>
    have hB := hcut
    clear hcut hE1

    obtain ⟨q, hq⟩ : ∃ q, q = min m 30 := ⟨_, rfl⟩
    have z1 : min (m : Int) 30 = (q : Int) := by omega
    have z2 : q ≤ m := by omega
    have z3 : (q : Int) ≤ (d : Int) := by omega
    have z4 : q ≤ d := by omega
    have hq30 : q ≤ 30 := by omega
    have hlq : Hid (q = (l.take q).length) := hide (by rw [List.length_take, ← hn'.out]; omega)
    have hrl : Hid (Rd tokE wc.heap.size wc B (l.take q)) := hide ((h'.out.ext hB).take q)
    have hsl : Hid (∀ x ∈ l.take q, x.text.size ≤ maxLen) := hide (fun x hx => hs' x (List.mem_of_mem_take hx))
    obtain ⟨l0, hl0⟩ : ∃ l0, l0 = l.take q := ⟨_, rfl⟩
    rw [← hl0] at hlq hrl hsl
    replace hl0 := hide hl0
    replace hq := hide hq
    go_wp2_with fail
    refine (clone_Tok B q d l0 _ hlq.out hrl.out (by omega)).mono ?_
    rintro e w2 ⟨v, rfl, hO, hE⟩
    have hB2 := hB.trans (hE.mono hB.size)
    replace hO := hO.base_le hB.size
    clear hE hrl
    obtain ⟨A1, c1, rfl, -, -, -⟩ := hO.rd
    rw [← hlq.out] at hO ⊢
    replace hO := hide hO
    rw [← headN_zero l0] at hO
    go_wp2
    go_loopw [63] (fun i wr => ∃ k : Nat, k ≤ q ∧ i = .int .i64 (k : Int) ∧ Hid (Own tokE 29 w.heap.size wr (.slice A1 q c1) (headN l0 k)) ∧ Ext w wr) (fun i _ => q - (intOf i).toNat)
    case atStart => exact ⟨0, Nat.zero_le _, rfl, hO, hB2⟩
    case round =>
      clear hO hB2 hB
      obtain ⟨k, hk, rfl, hO, hB⟩ := hrel
      by_cases hlt : k < q
      · have hlt' : (k : Int) < (q : Int) := by omega
        obtain ⟨t, hx⟩ := get_some (xs := l0) (i := k) (by rw [← hlq.out]; exact hlt)
        have htm : t.text.size ≤ maxLen := hsl.out t (List.mem_of_getElem? hx)
        obtain ⟨p, hp⟩ : ∃ p, p = min t.text.size 40 := ⟨_, rfl⟩
        obtain ⟨g, rfl, hgb, hgs, hgc, hgf, hO2⟩ := hO.out.setTok (headN_at hx) (t.text.extract 0 p)
        rw [show ({ t with text := t.text.extract 0 p } : Tok) = shortT t from by rw [hp]; rfl, headN_set hx] at hO2
        have hO3 : Hid (Own tokE 29 w.heap.size (wr.drew.setCell ⟨g, k * 4 + 2, none⟩ (.string (t.text.extract 0 p))) (.slice (some ⟨g, 0, none⟩) q c1) (headN l0 (k + 1))) := hide hO2
        have hB3 : Hid (Ext w (wr.drew.setCell ⟨g, k * 4 + 2, none⟩ (.string (t.text.extract 0 p)))) := hide (hB.drew.setCell (p := ⟨g, k * 4 + 2, none⟩) hgb _)
        obtain ⟨tx, htx⟩ : ∃ tx, tx = t.text := ⟨_, rfl⟩
        rw [← htx] at hgc hp htm hO3 hB3
        have z5 : min (tx.size : Int) 40 = (p : Int) := by omega
        have z6 : p ≤ tx.size := by omega
        have z7 : (p : Int) ≤ (tx.size : Int) := by omega
        replace htx := hide htx
        replace hx := hide hx
        replace hp := hide hp
        clear hO hO2 hB
        go_upto_region 17 with fail
        refine wp_only ?_
        refine wp_region_mixL (fun W => W = wr.drew) [17] [] [(0, true), (1, true), (2, true), (3, true), (4, true), (5, true), (6, true), (7, true), (8, true), (9, true), (10, true), (11, true), (12, true), (13, true), (14, true), (15, true), (16, true), (17, false)] (by kernel_rfl) (by kernel_rfl) (by kernel_rfl) (by kernel_rfl) (by kernel_rfl) (by kernel_rfl) (fun _ _ d _ _ h => by cases h.1) rfl ?_
        iterate 17
          apply mixL_q rfl rfl rfl
          · intro W hW
            subst hW
            go_simp
            try exact rfl
          simp only [Act.put, List.setIfInBounds_toArray, List.set_cons_zero, List.set_cons_succ]
        iterate 1
          refine mixL_w rfl rfl (fun K hK => ?_)
          go_simp
          refine hK _ _ (fun h => absurd (by decide) h) ?_
          clear hK K
          try simp only [Act.put, List.setIfInBounds_toArray, List.set_cons_zero, List.set_cons_succ]
        refine mixL_nil ⟨rfl, ?_⟩
        go_wp2
        refine ⟨?_, ?_⟩
        · first
            | exact ⟨k + 1, by omega, by go_num, hO3, hB3.out⟩
            | ((repeat apply Exists.intro); exact ⟨⟨k + 1, by omega, by go_num, hO3, hB3.out⟩, rfl⟩)
        · first | (simp [intOf, lenV]; omega) | (simp [intOf]; omega) | (simp [intOf]; done)
      · have hlt' : ¬ (k : Int) < (q : Int) := by omega
        obtain rfl : k = q := by omega
        have hlM : Hid (k = (headN l0 k).length) := hide (by rw [headN_len]; exact hlq.out)
        have htM : Hid (∀ t ∈ headN l0 k, t.text.size ≤ 1000000) := hide (fun t ht => Nat.le_trans (headN_text (by rw [← hlq.out]; exact Nat.le_refl _) ht) (by decide))
        obtain ⟨M, hM⟩ : ∃ M, M = headN l0 k := ⟨_, rfl⟩
        rw [← hM] at hO hlM htM
        replace hM := hide hM
        have hrM : Hid (Rd tokE wr.heap.size wr A1 M) := hide (by obtain ⟨A', c', hv, hr, -, -⟩ := hO.out.rd; injection hv with hv; subst hv; exact hr)
        go_wp2_with fail
        refine (clone_Tok A1 k c1 M _ hlM.out hrM.out (by omega)).mono ?_
        rintro e w3 ⟨v, rfl, hO4, hE3⟩
        obtain ⟨A4, c4, rfl, hr4, -, -⟩ := hO4.rd
        rw [← hlM.out]
        have hB3 := hB.trans (hE3.mono hB.size)
        replace hrM := hide (hrM.out.ext hE3)
        replace hr4 := hide hr4
        clear hO4 hE3 hO hB
        go_wp2_with fail
        refine (spell_any A1 k c1 M _ hrM.out hlM.out (by omega) htM.out).mono ?_
        rintro e w4 ⟨rfl, hE4⟩
        have hB4 := hB3.trans (hE4.mono hB3.size)
        replace hrM := hide (hrM.out.ext hE4)
        replace hr4 := hide (hr4.out.ext hE4)
        clear hB3 hE4
        obtain ⟨S, hS⟩ : ∃ S, S = spellN M := ⟨_, rfl⟩
        rw [← hS]
        go_wp2_with fail
        refine (refSpell_any A4 k c4 M _ hr4.out hlM.out (by omega) htM.out).mono ?_
        rintro e w5 ⟨rfl, hE5⟩
        rw [← hS]
        replace hS := hide hS
        have hB5 := hB4.trans (hE5.mono hB4.size)
        replace hrM := hide (hrM.out.ext hE5)
        replace hr4 := hide (hr4.out.ext hE5)
        clear hB4 hE5
        have hdd : decide (M = M) = true := by simp
        go_wp2_with fail
        refine (equal_Tok A1 A4 k c1 k c4 M M _ hlM.out hrM.out hlM.out hr4.out (by omega)).mono ?_
        rintro e w6 ⟨rfl, hE6⟩
        have hB6 := hB5.trans (hE6.mono hB5.size)
        go_wp2
        go_ret
        exact ⟨by simp, hB6⟩
end Go.Proofs.YtlianjnmfgakkaaDoor
