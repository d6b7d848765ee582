/- lex.Spell. -/
import Derived.Test.YtlianjnmfgakkaaDoorLexT
import Derived.Test.YtlianjnmfgakkaaDoorShelf02
namespace Go.Proofs.YtlianjnmfgakkaaDoor
open Go.RowKit

theorem build_alloc {T e : TypeId} {B b : Nat} {bs : List Value} {w : World} (h : Lib.IsBuilderF T e B b bs w) (o : Obj) : Lib.IsBuilderF T e B b bs (w.alloc o) := by
  have key : ∀ p, Lib.BuilderAtF T e B b p bs w → Lib.BuilderAtF T e B b p bs (w.alloc o) := by
    rintro p ⟨hB, v, hb, hown, hne⟩
    refine ⟨hB, v, (Below.heap_alloc w o b ?_).trans hb, hown.kept (World.grownBy_alloc w o none) ?_, hne⟩
    · exact (Array.getElem?_eq_some_iff.1 hb).1
    · cases hv : v.ownBlock with
      | none => exact .inl rfl
      | some k => exact .inr (by simp)
  exact h.imp (key _) (key _)
def spellL (b : Bool) (l : List Tok) : List UInt8 := (spellF b l).data.toList
theorem spellL_nil (b : Bool) : spellL b [] = [] := rfl
theorem spellL_cons (b : Bool) (t : Tok) (l : List Tok) : spellL b (t :: l) = ((if (!b && (!t.glued && !decide (t.kind = 4))) = true then [32] else []) ++ t.text.data.toList) ++ spellL (decide (t.kind = 4)) l := by
  unfold spellL
  conv => lhs; unfold spellF
  rw [ByteArray.data_append, ByteArray.data_append, Array.toList_append, Array.toList_append]
  congr 2
  split <;> rfl
theorem room_sum {a b k m : Nat} (h : a = b) (h1 : b ≤ k * 1000001 + 1) (h2 : k ≤ 1000000) (h3 : m ≤ 1000000) : a + m ≤ 140737488355328 := by
  have h4 : k * 1000001 ≤ 1000000 * 1000001 := Nat.mul_le_mul_right _ h2
  omega
theorem cells_app (a : List UInt8) (s : ByteArray) : Lib.byteCells a ++ Lib.strCells s = Lib.byteCells (a ++ s.data.toList) := by
  rw [Lib.strCells_eq, ← Lib.byteCells_append]
set_option maxRecDepth 100000 in
set_option maxHeartbeats 4000000 in
theorem spell_any (A : Option Addr) (n c : Nat) (l : List Tok) (w : World) (h : Rd tokE w.heap.size w A l) (hn : n = l.length) (hl : n ≤ 1000000) (hs : ∀ t ∈ l, t.text.size ≤ 1000000) :
    Calls Tryd.prog 16 #[.slice A n c] w fun e w' => e = .returned (.string (spellN l)) ∧ Ext w w' := by
  obtain ⟨S, hS⟩ : ∃ S, S = spellN l := ⟨_, rfl⟩
  have hS0 : Hid ([] ++ spellL true (l.drop 0) = S.data.toList) := hide (by rw [hS]; rfl)
  rw [← hS]
  replace h := hide h
  replace hS := hide hS
  replace hn := hide hn
  go_enter Tryd.func16, Tryd.ntmps16
  go_upto_region 2 with fail
  obtain ⟨w0, hw0⟩ : ∃ w0, w0 = w.alloc (.cells #[.pointer none, .slice none 0 0] 63) := ⟨_, rfl⟩
  rw [← hw0]
  have hE0 : Ext w w0 := by rw [hw0]; exact (Below.refl _ _).alloc (Nat.le_refl _) _
  have hI0 : Hid (Lib.IsBuilderF 63 5 w.heap.size w.heap.size (Lib.byteCells []) w0) := hide (by rw [hw0]; exact Lib.IsBuilderF.of (Lib.fresh_isBuilder _ _ w))
  have hz0 : w.heap.size < w0.heap.size := by rw [hw0]; simp
  clear hw0
  go_wp2
  go_loopw [4, 9] (fun b i wr => ∃ (k : Nat) (bg : Bool) (out : List UInt8), k ≤ n ∧ i = .int .i64 (k : Int) ∧ b = .bool bg ∧ Hid (out ++ spellL bg (l.drop k) = S.data.toList) ∧ Hid (out.length ≤ k * 1000001) ∧ Hid (Lib.IsBuilderF 63 5 w.heap.size w.heap.size (Lib.byteCells out) wr) ∧ Ext w wr) (fun _ i _ => n - (intOf i).toNat)
  case atStart => exact ⟨0, true, [], Nat.zero_le _, rfl, rfl, hS0, hide (Nat.zero_le _), hI0, hE0⟩
  case round =>
    clear hS0 hI0 hE0
    obtain ⟨k, bg, out, hk, rfl, rfl, hst, hlo, hIB, hB⟩ := hrel
    by_cases hlt : k < n
    · have hlt' : (k : Int) < (n : Int) := by omega
      obtain ⟨bk, off, rfl, ra⟩ := h.out.at_ (i := k) (by rw [← hn.out]; exact hlt)
      obtain ⟨⟨kd, pl, tx, gl⟩, hx⟩ := get_some (xs := l) (i := k) (by rw [← hn.out]; exact hlt)
      obtain ⟨x1, x2, x3, x4⟩ := (ra.ext hB).tok hx
      have hbk := Nat.lt_of_lt_of_le ra.1 hB.size
      have hdr : Hid (l.drop k = (⟨kd, pl, tx, gl⟩ : Tok) :: l.drop (k + 1)) := hide (by rw [List.drop_eq_getElem_cons (by rw [← hn.out]; exact hlt)]; congr 1; exact (List.getElem?_eq_some_iff.1 hx).2)
      have htx : tx.size ≤ 1000000 := hs _ (List.mem_of_getElem? hx)
      replace ra := hide ra
      replace hx := hide hx
      obtain ⟨wb, hwb⟩ : ∃ x, x = wr.alloc (.cells #[.int .i64 kd, .int .i64 pl, .string tx, .bool gl] 29) := ⟨_, rfl⟩
      have hwz : Hid (wb.heap.size = wr.heap.size + 1) := hide (by rw [hwb]; simp)
      have X6 : Hid (BoxN wb wr.heap.size 29 #[.int .i64 kd, .int .i64 pl, .string tx, .bool gl]) := hide (by rw [hwb]; exact BoxN.new _ _ _)
      have hIB2 : Hid (Lib.IsBuilderF 63 5 w.heap.size w.heap.size (Lib.byteCells out) wb) := hide (by rw [hwb]; exact build_alloc hIB.out _)
      have hB2 : Ext w wb := by rw [hwb]; exact hB.alloc hB.size _
      have hw6 : Hid (w.heap.size < wr.heap.size) := hide (by
        rcases hIB.out with ⟨_, v, hb, _⟩ | ⟨_, v, hb, _⟩ <;> exact (Array.getElem?_eq_some_iff.1 hb).1)
      go_upto_region 6 with fail
      rw [← hwb]
      clear hwb hIB hB x1 x2 x3 x4 hbk
      obtain ⟨w6, hw6e⟩ : ∃ x, x = wr.heap.size := ⟨_, rfl⟩
      rw [← hw6e] at X6 hw6 ⊢
      replace hw6e := hide hw6e
      have Y6 := X6.out
      have y6 := Y6.lt
      have y60 := Y6.cell 0 (v := .int .i64 kd) rfl
      have y63 := Y6.cell 3 (v := .bool gl) rfl
      replace Y6 := hide trivial
      clear Y6
      have hB := hB2
      have hIB := hIB2
      clear hB2 hIB2
      have hlo2 : Hid (out.length ≤ k * 1000001 + 1 ∧ k ≤ 1000000) := hide ⟨Nat.le_succ_of_le hlo.out, Nat.le_trans hk hl⟩
      cases bg with
      | true =>
        clear y6 y60 y63
        -- the world is @W@, what stands is out
        have X6' := X6.out
        have s6 := X6'.lt
        have k60 := X6'.cell 0 (v := .int .i64 kd) rfl
        have k62 := X6'.cell 2 (v := .string tx) rfl
        go_wp2_with fail
        have hsum : (Lib.byteCells out).length + tx.size ≤ 140737488355328 := room_sum (Lib.byteCells_length _) hlo2.out.1 hlo2.out.2 htx
        refine (Tryd.Builder_WriteString_k w.heap.size w.heap.size _ tx _ hIB.out hsum hB.size).mono ?_
        rintro e w5 ⟨rfl, hI5, hE5, hO5⟩
        have hB5 := hB.trans hE5
        rw [cells_app] at hI5
        have hI6 : Hid (Lib.IsBuilderF 63 5 w.heap.size w.heap.size (Lib.byteCells (out ++ tx.data.toList)) w5) := hide (.inr hI5)
        obtain ⟨o2, ho2⟩ : ∃ o, o = out ++ tx.data.toList := ⟨_, rfl⟩
        have hl6 : Hid (o2.length ≤ (k + 1) * 1000001) := hide (by have := hlo2.out; rw [ho2, List.length_append, show tx.data.toList.length = tx.size from rfl, Nat.add_mul]; omega)
        have hst2 : Hid (o2 ++ spellL (decide (kd = 4)) (l.drop (k + 1)) = S.data.toList) := hide (by rw [← hst.out, hdr.out, spellL_cons, ho2, show (!true) = false from rfl, Bool.false_and, if_neg (by decide), List.nil_append, ← List.append_assoc])
        rw [← ho2] at hI6
        replace ho2 := hide ho2
        have X7 : BoxN w5 w6 29 #[.int .i64 kd, .int .i64 pl, .string tx, .bool gl] := hO5 w6 _ X6' (fun e => by injection e with e; have := hw6.out; omega) (fun c fz e => by injection e with _ e; exact absurd e (by decide))
        have k60' := X7.cell 0 (v := .int .i64 kd) rfl
        have s6' := X7.lt
        clear hI5 hIB k60 k62 s6 hE5 hst X6' X6 X7 hO5 hB hlo2 hsum
        by_cases h4 : kd = 4
        · have hst3 : Hid (o2 ++ spellL true (l.drop (k + 1)) = S.data.toList) := hide (by rw [← hst2.out, decide_eq_true h4])
          clear hst2
          subst h4
          go_wp2
          refine ⟨?_, ?_⟩
          · first
              | exact ⟨k + 1, true, o2, by omega, by go_num, rfl, hst3, hl6, hI6, hB5⟩
              | ((repeat apply Exists.intro); exact ⟨⟨k + 1, true, o2, by omega, by go_num, rfl, hst3, hl6, hI6, hB5⟩, rfl⟩)
          · first | (simp [intOf, lenV]; omega) | (simp [intOf]; omega) | (simp [intOf]; done)
        · have hst3 : Hid (o2 ++ spellL false (l.drop (k + 1)) = S.data.toList) := hide (by rw [← hst2.out, decide_eq_false h4])
          have h4' : (kd == 4) = false := beq_eq_false_iff_ne.2 h4
          clear hst2
          go_wp2
          refine ⟨?_, ?_⟩
          · first
              | exact ⟨k + 1, false, o2, by omega, by go_num, rfl, hst3, hl6, hI6, hB5⟩
              | ((repeat apply Exists.intro); exact ⟨⟨k + 1, false, o2, by omega, by go_num, rfl, hst3, hl6, hI6, hB5⟩, rfl⟩)
          · first | (simp [intOf, lenV]; omega) | (simp [intOf]; omega) | (simp [intOf]; done)
      | false =>
        cases gl with
        | true =>
          clear y60
          -- the world is @W@, what stands is out
          have X6' := X6.out
          have s6 := X6'.lt
          have k60 := X6'.cell 0 (v := .int .i64 kd) rfl
          have k62 := X6'.cell 2 (v := .string tx) rfl
          go_wp2_with fail
          have hsum : (Lib.byteCells out).length + tx.size ≤ 140737488355328 := room_sum (Lib.byteCells_length _) hlo2.out.1 hlo2.out.2 htx
          refine (Tryd.Builder_WriteString_k w.heap.size w.heap.size _ tx _ hIB.out hsum hB.size).mono ?_
          rintro e w5 ⟨rfl, hI5, hE5, hO5⟩
          have hB5 := hB.trans hE5
          rw [cells_app] at hI5
          have hI6 : Hid (Lib.IsBuilderF 63 5 w.heap.size w.heap.size (Lib.byteCells (out ++ tx.data.toList)) w5) := hide (.inr hI5)
          obtain ⟨o2, ho2⟩ : ∃ o, o = out ++ tx.data.toList := ⟨_, rfl⟩
          have hl6 : Hid (o2.length ≤ (k + 1) * 1000001) := hide (by have := hlo2.out; rw [ho2, List.length_append, show tx.data.toList.length = tx.size from rfl, Nat.add_mul]; omega)
          have hst2 : Hid (o2 ++ spellL (decide (kd = 4)) (l.drop (k + 1)) = S.data.toList) := hide (by rw [← hst.out, hdr.out, spellL_cons, ho2, show (!true) = false from rfl, Bool.false_and, Bool.and_false, if_neg (by decide), List.nil_append, ← List.append_assoc])
          rw [← ho2] at hI6
          replace ho2 := hide ho2
          have X7 : BoxN w5 w6 29 #[.int .i64 kd, .int .i64 pl, .string tx, .bool true] := hO5 w6 _ X6' (fun e => by injection e with e; have := hw6.out; omega) (fun c fz e => by injection e with _ e; exact absurd e (by decide))
          have k60' := X7.cell 0 (v := .int .i64 kd) rfl
          have s6' := X7.lt
          clear hI5 hIB k60 k62 s6 hE5 hst X6' X6 X7 hO5 hB hlo2 hsum
          by_cases h4 : kd = 4
          · have hst3 : Hid (o2 ++ spellL true (l.drop (k + 1)) = S.data.toList) := hide (by rw [← hst2.out, decide_eq_true h4])
            clear hst2
            subst h4
            go_wp2
            refine ⟨?_, ?_⟩
            · first
                | exact ⟨k + 1, true, o2, by omega, by go_num, rfl, hst3, hl6, hI6, hB5⟩
                | ((repeat apply Exists.intro); exact ⟨⟨k + 1, true, o2, by omega, by go_num, rfl, hst3, hl6, hI6, hB5⟩, rfl⟩)
            · first | (simp [intOf, lenV]; omega) | (simp [intOf]; omega) | (simp [intOf]; done)
          · have hst3 : Hid (o2 ++ spellL false (l.drop (k + 1)) = S.data.toList) := hide (by rw [← hst2.out, decide_eq_false h4])
            have h4' : (kd == 4) = false := beq_eq_false_iff_ne.2 h4
            clear hst2
            go_wp2
            refine ⟨?_, ?_⟩
            · first
                | exact ⟨k + 1, false, o2, by omega, by go_num, rfl, hst3, hl6, hI6, hB5⟩
                | ((repeat apply Exists.intro); exact ⟨⟨k + 1, false, o2, by omega, by go_num, rfl, hst3, hl6, hI6, hB5⟩, rfl⟩)
            · first | (simp [intOf, lenV]; omega) | (simp [intOf]; omega) | (simp [intOf]; done)
        | false =>
          by_cases h4 : kd = 4
          · have e4 : (kd != 4) = false := by rw [h4]; rfl
            have h4s := h4
            replace h4 := hide h4
            -- the world is @W@, what stands is out
            have X6' := X6.out
            have s6 := X6'.lt
            have k60 := X6'.cell 0 (v := .int .i64 kd) rfl
            have k62 := X6'.cell 2 (v := .string tx) rfl
            go_wp2_with fail
            have hsum : (Lib.byteCells out).length + tx.size ≤ 140737488355328 := room_sum (Lib.byteCells_length _) hlo2.out.1 hlo2.out.2 htx
            refine (Tryd.Builder_WriteString_k w.heap.size w.heap.size _ tx _ hIB.out hsum hB.size).mono ?_
            rintro e w5 ⟨rfl, hI5, hE5, hO5⟩
            have hB5 := hB.trans hE5
            rw [cells_app] at hI5
            have hI6 : Hid (Lib.IsBuilderF 63 5 w.heap.size w.heap.size (Lib.byteCells (out ++ tx.data.toList)) w5) := hide (.inr hI5)
            obtain ⟨o2, ho2⟩ : ∃ o, o = out ++ tx.data.toList := ⟨_, rfl⟩
            have hl6 : Hid (o2.length ≤ (k + 1) * 1000001) := hide (by have := hlo2.out; rw [ho2, List.length_append, show tx.data.toList.length = tx.size from rfl, Nat.add_mul]; omega)
            have hst2 : Hid (o2 ++ spellL (decide (kd = 4)) (l.drop (k + 1)) = S.data.toList) := hide (by rw [← hst.out, hdr.out, spellL_cons, ho2, decide_eq_true h4.out, show (!true) = false from rfl, Bool.and_false, Bool.and_false, if_neg (by decide), List.nil_append, ← List.append_assoc])
            rw [← ho2] at hI6
            replace ho2 := hide ho2
            have X7 : BoxN w5 w6 29 #[.int .i64 kd, .int .i64 pl, .string tx, .bool false] := hO5 w6 _ X6' (fun e => by injection e with e; have := hw6.out; omega) (fun c fz e => by injection e with _ e; exact absurd e (by decide))
            have k60' := X7.cell 0 (v := .int .i64 kd) rfl
            have s6' := X7.lt
            clear hI5 hIB k60 k62 s6 hE5 hst X6' X6 X7 hO5 hB hlo2 hsum
            replace h4 := h4.out
            have hst3 : Hid (o2 ++ spellL true (l.drop (k + 1)) = S.data.toList) := hide (by rw [← hst2.out, decide_eq_true h4])
            clear hst2
            subst h4
            go_wp2
            refine ⟨?_, ?_⟩
            · first
                | exact ⟨k + 1, true, o2, by omega, by go_num, rfl, hst3, hl6, hI6, hB5⟩
                | ((repeat apply Exists.intro); exact ⟨⟨k + 1, true, o2, by omega, by go_num, rfl, hst3, hl6, hI6, hB5⟩, rfl⟩)
            · first | (simp [intOf, lenV]; omega) | (simp [intOf]; omega) | (simp [intOf]; done)
          · have e4 : (kd == 4) = false := beq_eq_false_iff_ne.2 h4
            have e4' : (kd != 4) = true := by rw [bne, e4]; rfl
            have h4h := hide h4
            go_wp2_with fail
            have hsum1 : (Lib.byteCells out).length + 1 ≤ 140737488355328 := room_sum (Lib.byteCells_length _) hlo2.out.1 hlo2.out.2 (by decide)
            refine (Tryd.Builder_WriteByte_k w.heap.size w.heap.size _ 32 _ hIB.out hsum1 hB.size).mono ?_
            rintro e w5 ⟨rfl, hI5, hE5, hO5⟩
            replace hB := hB.trans hE5
            replace X6 := hide (show BoxN w5 w6 29 #[.int .i64 kd, .int .i64 pl, .string tx, .bool false] from hO5 w6 _ X6.out (fun e => by injection e with e; have := hw6.out; omega) (fun c fz e => by injection e with _ e; exact absurd e (by decide)))
            replace hIB := hide (show Lib.IsBuilderF 63 5 w.heap.size w.heap.size (Lib.byteCells (out ++ [32])) w5 from .inr (by
              rw [Lib.byteCells_append]
              exact hI5))
            replace hlo2 : Hid ((out ++ [(32 : UInt8)]).length ≤ k * 1000001 + 1 ∧ k ≤ 1000000) := hide ⟨by rw [List.length_append]; exact Nat.add_le_add_right hlo.out 1, hlo2.out.2⟩
            clear y6 y60 y63 hI5 hE5 hO5 hsum1
            -- the world is @W@, what stands is (out ++ [32])
            have X6' := X6.out
            have s6 := X6'.lt
            have k60 := X6'.cell 0 (v := .int .i64 kd) rfl
            have k62 := X6'.cell 2 (v := .string tx) rfl
            go_wp2_with fail
            have hsum : (Lib.byteCells (out ++ [32])).length + tx.size ≤ 140737488355328 := room_sum (Lib.byteCells_length _) hlo2.out.1 hlo2.out.2 htx
            refine (Tryd.Builder_WriteString_k w.heap.size w.heap.size _ tx _ hIB.out hsum hB.size).mono ?_
            rintro e w5 ⟨rfl, hI5, hE5, hO5⟩
            have hB5 := hB.trans hE5
            rw [cells_app] at hI5
            have hI6 : Hid (Lib.IsBuilderF 63 5 w.heap.size w.heap.size (Lib.byteCells ((out ++ [32]) ++ tx.data.toList)) w5) := hide (.inr hI5)
            obtain ⟨o2, ho2⟩ : ∃ o, o = (out ++ [32]) ++ tx.data.toList := ⟨_, rfl⟩
            have hl6 : Hid (o2.length ≤ (k + 1) * 1000001) := hide (by have := hlo2.out; rw [ho2, List.length_append, show tx.data.toList.length = tx.size from rfl, Nat.add_mul]; omega)
            have hst2 : Hid (o2 ++ spellL (decide (kd = 4)) (l.drop (k + 1)) = S.data.toList) := hide (by rw [← hst.out, hdr.out, spellL_cons, ho2, decide_eq_false h4h.out, show (!false && (!false && !false)) = true from rfl, if_pos rfl, ← List.append_assoc, ← List.append_assoc])
            rw [← ho2] at hI6
            replace ho2 := hide ho2
            have X7 : BoxN w5 w6 29 #[.int .i64 kd, .int .i64 pl, .string tx, .bool false] := hO5 w6 _ X6' (fun e => by injection e with e; have := hw6.out; omega) (fun c fz e => by injection e with _ e; exact absurd e (by decide))
            have k60' := X7.cell 0 (v := .int .i64 kd) rfl
            have s6' := X7.lt
            clear hI5 hIB k60 k62 s6 hE5 hst X6' X6 X7 hO5 hB hlo2 hsum
            have hst3 : Hid (o2 ++ spellL false (l.drop (k + 1)) = S.data.toList) := hide (by rw [← hst2.out, decide_eq_false h4])
            have h4' : (kd == 4) = false := beq_eq_false_iff_ne.2 h4
            clear hst2
            go_wp2
            refine ⟨?_, ?_⟩
            · first
                | exact ⟨k + 1, false, o2, by omega, by go_num, rfl, hst3, hl6, hI6, hB5⟩
                | ((repeat apply Exists.intro); exact ⟨⟨k + 1, false, o2, by omega, by go_num, rfl, hst3, hl6, hI6, hB5⟩, rfl⟩)
            · first | (simp [intOf, lenV]; omega) | (simp [intOf]; omega) | (simp [intOf]; done)
    · have hlt' : ¬ (k : Int) < (n : Int) := by omega
      have hfin : Hid (out = S.data.toList) := hide (by
        have := hst.out
        rw [List.drop_of_length_le (by have := hn.out; omega), spellL_nil, List.append_nil] at this
        exact this)
      go_wp2_with fail
      refine (Tryd.Builder_String_any_k w.heap.size w.heap.size out _ hIB.out hB.size).mono ?_
      rintro e w5 ⟨rfl, -, hE5, -⟩
      have hB5 := hB.trans hE5
      go_wp2
      go_ret
      refine ⟨?_, hB5⟩
      rw [hfin.out]
      try rfl
end Go.Proofs.YtlianjnmfgakkaaDoor
