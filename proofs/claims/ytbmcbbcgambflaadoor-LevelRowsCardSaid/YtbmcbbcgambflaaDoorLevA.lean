/- Levels and guarantees: contracts of level.Check, Text, Read, Words, Guarantees. -/
import Derived.Test.YtbmcbbcgambflaaDoorRows
import Derived.Test.YtbmcbbcgambflaaDoorShelf09
import Derived.Test.YtbmcbbcgambflaaDoorOwn
import Derived.Lib.Strings
namespace Go.Proofs.YtbmcbbcgambflaaDoor
open Go.RowKit

def tx : List ByteArray := [⟨#[]⟩, ⟨#[49]⟩, ⟨#[50]⟩, ⟨#[50, 46, 57, 57]⟩, ⟨#[51]⟩]
def wd : List ByteArray := [⟨#[114, 121, 119]⟩, ⟨#[109, 114]⟩, ⟨#[109, 119]⟩, ⟨#[119, 102, 114]⟩]
/-- the level's variables hold what the program's text lays -/
def LaidAt (w : World) : Prop := (∀ (j : Nat) s, tx[j]? = some s → w.cell? ⟨0, j, none⟩ = some (.string s)) ∧ (∀ (j : Nat) s, wd[j]? = some s → w.cell? ⟨1, j, none⟩ = some (.string s)) ∧ 2 ≤ w.heap.size
theorem LaidAt.ext {w w' : World} (h : LaidAt w) (hE : Ext w w') : LaidAt w' := by
  obtain ⟨hc, -⟩ := bcell hE
  have h2 := h.2.2
  exact ⟨fun j s hs => (hc 0 j (by omega)).trans (h.1 j s hs), fun j s hs => (hc 1 j (by omega)).trans (h.2.1 j s hs), Nat.le_trans h2 hE.size⟩

def lvl (n : Int) : Bool := decide (1 ≤ n) && decide (n ≤ 4)
def chk (n : Int) : Int := if lvl n = true then 0 else 190
theorem lvl_in {n : Int} (h1 : 1 ≤ n) (h2 : n ≤ 4) : lvl n = true := by unfold lvl; rw [decide_eq_true h1, decide_eq_true h2]; rfl
theorem lvl_out {n : Int} (h : n < 1 ∨ 4 < n) : lvl n = false := by
  unfold lvl
  rcases h with h | h
  · rw [decide_eq_false (by omega)]; rfl
  · rw [decide_eq_false (p := n ≤ 4) (by omega), Bool.and_false]
theorem lvl_of {n : Int} (h : lvl n = true) : 1 ≤ n ∧ n ≤ 4 := by unfold lvl at h; simpa using h
theorem chk_in {n : Int} (h : lvl n = true) : chk n = 0 := by unfold chk; rw [if_pos h]
theorem chk_out {n : Int} (h : lvl n = false) : chk n = 190 := by unfold chk; rw [h]; rfl
theorem check_any (n : Int) (w : World) :
    Calls Tryd.prog 11 #[.int .i64 n] w fun e w' => e = .returned (.int .i64 (chk n)) ∧ w' = w := by
  by_cases h1 : n < 1
  · rw [chk_out (lvl_out (.inl h1))]
    go_enter Tryd.func11, Tryd.ntmps11
    go_wp2
    go_ret
    exact ⟨rfl, rfl⟩
  · have h1' : 1 ≤ n := by omega
    by_cases h2 : 4 < n
    · rw [chk_out (lvl_out (.inr h2))]
      go_enter Tryd.func11, Tryd.ntmps11
      go_wp2
      go_ret
      exact ⟨rfl, rfl⟩
    · have h2' : n ≤ 4 := by omega
      rw [chk_in (lvl_in h1' h2')]
      go_enter Tryd.func11, Tryd.ntmps11
      go_wp2
      go_ret
      exact ⟨rfl, rfl⟩
/-- a level's text; of what is none: the empty one -/
def txt (n : Int) : ByteArray := if lvl n = true then (tx[n.toNat]?).getD ⟨#[]⟩ else ⟨#[]⟩
theorem text_any (n : Int) (w : World) (hL : LaidAt w) :
    Calls Tryd.prog 9 #[.int .i64 n] w fun e w' => e = .returned (.tuple #[.string (txt n), .int .i64 (chk n)]) ∧ w' = w := by
  cases hl : lvl n with
  | true =>
    have hc := chk_in hl
    obtain ⟨h1, h2⟩ := lvl_of hl
    obtain ⟨k, rfl⟩ : ∃ k : Nat, n = k := ⟨n.toNat, by omega⟩
    have hk : k < 5 := by omega
    obtain ⟨s, hs⟩ : ∃ s, tx[k]? = some s := ⟨tx[k]'hk, List.getElem?_eq_getElem hk⟩
    have hcell := hL.1 k s hs
    have htx : txt (k : Int) = s := by unfold txt; rw [if_pos hl, Int.toNat_natCast, hs]; rfl
    have hki : (k : Int) < 5 := by omega
    rw [htx, hc]
    replace hs := hide hs
    replace htx := hide htx
    replace hL := hide hL
    replace hc := hide hc
    replace hl := hide hl
    go_enter Tryd.func9, Tryd.ntmps9
    go_wp2_with fail
    refine (check_any k _).mono ?_
    rintro e w1 ⟨rfl, rfl⟩
    rw [hc.out]
    go_wp2
    go_ret2
    exact ⟨rfl, rfl⟩
  | false =>
    have hc := chk_out hl
    have htx : txt n = ⟨#[]⟩ := by unfold txt; rw [hl]; rfl
    rw [htx, hc]
    replace hL := hide hL
    replace hc := hide hc
    replace hl := hide hl
    replace htx := hide htx
    go_enter Tryd.func9, Tryd.ntmps9
    go_wp2_with fail
    refine (check_any n _).mono ?_
    rintro e w1 ⟨rfl, rfl⟩
    rw [hc.out]
    go_wp2
    go_ret2
    exact ⟨rfl, rfl⟩
def idxT (s : ByteArray) : Int := Lib.idxOfS tx s
/-- the level of a text; 0: of none -/
def lev (s : ByteArray) : Int := if lvl (idxT s) = true then idxT s else 0
theorem read_any (s : ByteArray) (w : World) (hL : LaidAt w) :
    Calls Tryd.prog 15 #[.string s] w fun e w' => e = .returned (.tuple #[.int .i64 (lev s), .int .i64 (chk (idxT s))]) ∧ w' = w := by
  have hcs : ∀ j, j < tx.length → w.cell? ⟨0, 0 + j, none⟩ = some (.string (tx.getD j ByteArray.empty)) := by
    intro j hj
    rw [Nat.zero_add]
    refine hL.1 j _ ?_
    rw [List.getD, List.getElem?_eq_getElem hj]
    rfl
  replace hL := hide hL
  replace hcs := hide hcs
  go_enter Tryd.func15, Tryd.ntmps15
  go_wp2_with fail
  refine (Tryd.slices_Index_string 0 0 5 5 tx s _ (by decide) (by decide) hcs.out).mono ?_
  rintro e w1 ⟨rfl, rfl⟩
  rw [show Lib.idxOfS (tx.take 5) s = idxT s from rfl]
  go_wp2_with fail
  refine (check_any _ _).mono ?_
  rintro e w1 ⟨rfl, rfl⟩
  cases hl : lvl (idxT s) with
  | true =>
    have hc := chk_in hl
    have hv : lev s = idxT s := by unfold lev; rw [if_pos hl]
    rw [hc]
    replace hc := hide hc
    replace hl := hide hl
    replace hv := hide hv
    go_wp2
    go_ret2
    exact ⟨by rw [hv.out, hc.out]; rfl, rfl⟩
  | false =>
    have hc := chk_out hl
    have hv : lev s = 0 := by unfold lev; rw [hl]; rfl
    rw [hc]
    replace hc := hide hc
    replace hl := hide hl
    replace hv := hide hv
    go_wp2
    go_ret2
    exact ⟨by rw [hv.out, hc.out]; rfl, rfl⟩
theorem tyStr : Ty Tryd.prog strE 23 9 16 := ty_of (z := .string ByteArray.empty) (sz := 1) (by kernel_rfl) (by kernel_rfl) rfl rfl (by decide)
def sel (g : Nat) : Nat → List ByteArray
  | 0 => []
  | k + 1 => sel g k ++ (if g.testBit k = true then [(wd[k]?).getD ⟨#[]⟩] else [])
/-- the text of guarantees -/
def wordsB (g : Nat) : ByteArray := ⟨(Lib.join ((sel g 4).map (·.data.toList)) [32]).toArray⟩
theorem bit_at : ∀ g : Nat, g < 16 → ∀ k : Nat, k < 4 → (bits .and .i64 ((g : Int) / 2 ^ k) 1 == 1) = g.testBit k := by decide +kernel
theorem join_short : ∀ g, g < 16 → (Lib.join ((sel g 4).map (·.data.toList)) [32]).length ≤ 20 := by decide +kernel
theorem sel_nil : ∀ g, g < 16 → sel g 4 = [] → wordsB g = ⟨#[]⟩ := by
  intro g _ h
  unfold wordsB
  rw [h]
  rfl
set_option maxHeartbeats 2000000 in
theorem words_in (g : Nat) (hg : g < 16) (w : World) (hL : LaidAt w) :
    Calls Tryd.prog 13 #[.int .i64 g] w fun e w' => e = .returned (.tuple #[.string (wordsB g), .int .i64 0]) ∧ Ext w w' := by
  replace hL := hide hL
  go_enter Tryd.func13, Tryd.ntmps13
  have hgi : (g : Int) ≤ 15 := by omega
  have hgn : ¬ (g : Int) < 0 := by omega
  go_wp2
  go_loopw [4, 12] (fun l i wr => ∃ k : Nat, k ≤ 4 ∧ i = .int .i64 k ∧ Hid (Own strE 9 w.heap.size wr l (sel g k)) ∧ Ext w wr) (fun _ i _ => 4 - (intOf i).toNat)
  case atStart => exact ⟨0, by omega, rfl, hide Own.nil_, Below.refl _ _⟩
  case round =>
    obtain ⟨k, hk, rfl, hO, hB⟩ := hrel
    have hsz := hB.size
    by_cases hlt : k < 4
    · have hki : (k : Int) < 4 := by omega
      obtain ⟨s, hs⟩ : ∃ s, wd[k]? = some s := ⟨wd[k]'hlt, List.getElem?_eq_getElem hlt⟩
      have hcell := (hL.out.ext hB).2.1 k s hs
      have h2l := (hL.out.ext hB).2.2
      have hll : (sel g k).length ≤ k := by
        clear hB hO hcell h2l hs hki hsz hgi hgn hlt hk
        induction k with
        | zero => exact Nat.le_refl _
        | succ k ih =>
          rw [sel, List.length_append]
          have : (if g.testBit k = true then [(wd[k]?).getD ⟨#[]⟩] else []).length ≤ 1 := by split <;> simp
          omega
      have hsel : sel g (k + 1) = sel g k ++ (if g.testBit k = true then [s] else []) := by rw [sel, hs]; rfl
      have hbit := bit_at g hg k hlt
      cases hb : g.testBit k with
      | true =>
        rw [hb] at hbit hsel
        rw [if_pos rfl] at hsel
        replace hs := hide hs
        replace hb := hide hb
        replace hsel := hide hsel
        obtain ⟨A, c, rfl, -, -, -⟩ := hO.out.rd
        have hon := own_new (base := 0) (e := 9) strE wr s wr.heap.size rfl (Nat.zero_le _)
        obtain ⟨A1, c1, hv1, hr1, -, -⟩ := hon.rd
        injection hv1 with hv2 hv3 hv4
        subst hv2
        clear hon hv3 hv4
        replace hr1 := hide hr1
        have hO1 := hide (hO.out.alloc (.cells (strE.cs s).toArray 9))
        go_wp2_with (at_builtin; refine wpList_app tyStr rfl (.tmp 20) (.tmp 24) rfl rfl hO1.out rfl hr1.out rfl (by simp; omega) (by simp; omega) ?_)
        intro v' w' hown' hg hne' hnil
        have hB' : Ext w w' := Own.below hO1.out (hB.alloc hsz _) hg (by simp; omega)
        have hown2 : Hid (Own strE 9 w.heap.size w' v' (sel g (k + 1))) := hide (by rw [hsel.out]; exact hown')
        clear hown' hne' hnil hg hO1 hr1 hcell
        go_wp2
        refine ⟨?_, ?_⟩
        · first
            | exact ⟨k + 1, by omega, by go_num, hown2, hB'⟩
            | ((repeat apply Exists.intro); exact ⟨⟨k + 1, by omega, by go_num, hown2, hB'⟩, rfl⟩)
        · first | (simp [intOf, lenV]; omega) | (simp [intOf]; omega) | (simp [intOf]; done)
      | false =>
        rw [hb] at hbit hsel
        rw [if_neg (by decide), List.append_nil] at hsel
        replace hs := hide hs
        replace hb := hide hb
        have hown2 : Hid (Own strE 9 w.heap.size wr u4 (sel g (k + 1))) := hide (by rw [hsel]; exact hO.out)
        clear hsel hcell
        go_wp2
        refine ⟨?_, ?_⟩
        · first
            | exact ⟨k + 1, by omega, by go_num, hown2, hB⟩
            | ((repeat apply Exists.intro); exact ⟨⟨k + 1, by omega, by go_num, hown2, hB⟩, rfl⟩)
        · first | (simp [intOf, lenV]; omega) | (simp [intOf]; omega) | (simp [intOf]; done)
    · obtain rfl : k = 4 := by omega
      obtain ⟨A, c, rfl, hrd, hcc, -⟩ := hO.out.rd
      have hj := join_short g hg
      have hwb : wordsB g = ⟨(Lib.join ((sel g 4).map (·.data.toList)) [32]).toArray⟩ := rfl
      rcases hrd with h0 | ⟨b, off, rfl, hra⟩
      · have hn := sel_nil g hg h0
        rw [h0] at hO hcc ⊢
        replace hO := hide hO
        replace hn := hide hn
        clear hwb hj
        go_wp2_with fail
        refine (Tryd.strings_Join_none A c _ _).mono ?_
        rintro e w1 ⟨rfl, rfl⟩
        go_wp2
        go_ret2
        exact ⟨by rw [hn.out]; rfl, hB⟩
      · have hlen4 : (sel g 4).length ≤ 140737488355328 := by
          have : ∀ k, (sel g k).length ≤ k := by
            intro k
            induction k with
            | zero => exact Nat.le_refl _
            | succ k ih =>
              rw [sel, List.length_append]
              have : (if g.testBit k = true then [(wd[k]?).getD ⟨#[]⟩] else []).length ≤ 1 := by split <;> simp
              omega
          have := this 4
          omega
        have hJ := Tryd.strings_Join b off c (sel g 4) ⟨#[32]⟩ wr (fun j x hx => hra.str hx) hra.1 hlen4 hcc (by have : (⟨#[32]⟩ : ByteArray).data.toList = [32] := rfl; rw [this]; omega)
        generalize sel g 4 = ss at *
        obtain ⟨q, hq⟩ : ∃ q, q = ss.length := ⟨_, rfl⟩
        rw [← hq] at hJ hcc ⊢
        replace hJ := hide hJ
        replace hq := hide hq
        replace hwb := hide hwb
        clear hj hra hO hlen4
        go_wp2_with fail
        refine hJ.out.mono ?_
        rintro e w1 ⟨rfl, hE⟩
        go_wp2
        go_ret2
        exact ⟨by rw [hwb.out]; rfl, hB.trans (hE.mono hsz)⟩
theorem words_out (g : Int) (hg : g < 0 ∨ 15 < g) (w : World) :
    Calls Tryd.prog 13 #[.int .i64 g] w fun e w' => e = .returned (.tuple #[.string ⟨#[]⟩, .int .i64 190]) ∧ w' = w := by
  by_cases h0 : g < 0
  · go_enter Tryd.func13, Tryd.ntmps13
    go_wp2
    go_ret2
    exact ⟨rfl, rfl⟩
  · have h15 : 15 < g := by omega
    have h0' : 0 ≤ g := by omega
    go_enter Tryd.func13, Tryd.ntmps13
    go_wp2
    go_ret2
    exact ⟨rfl, rfl⟩
end Go.Proofs.YtbmcbbcgambflaaDoor
