/- lex.Word, and the document's Word, first. -/
import Derived.Test.YtlianjnmfgakkaaDoorLexC
namespace Go.Proofs.YtlianjnmfgakkaaDoor
open Go.RowKit Go.Lib

theorem goes_either : Goes 27 (fun c => letZ (c : Int) || digZ (c : Int)) := fun c W => either_any c W
set_option maxHeartbeats 2000000 in
theorem word_any (s : ByteArray) (w : World) (hm : s.size ≤ maxLen) (hU : LaidU w) :
    Calls Tryd.prog 10 #[.string s] w fun e w' => e = .returned (.bool (wordB s)) ∧ Ext w w' := by
  by_cases h0 : s.size = 0
  · have hs : s = ByteArray.empty := by
      have : s.data = #[] := Array.size_eq_zero_iff.1 h0
      exact ByteArray.ext this
    subst hs
    go_enter Tryd.func10, Tryd.ntmps10
    go_wp2
    go_ret
    exact ⟨rfl, Below.refl _ _⟩
  · have hne : ¬ s.toList = [] := fun h => h0 (by
      have h1 : s.data.toList = [] := by rw [← toList_data']; exact h
      have h2 : s.data.size = 0 := by rw [← Array.length_toList, h1]; rfl
      exact h2)
    have hne2 : s.toList.isEmpty = false := by rw [List.isEmpty_eq_false_iff]; exact hne
    have h0' : 0 < s.size := by omega
    replace hU := hide hU
    by_cases h24 : s.size ≤ 24
    · have h24' : (s.size : Int) ≤ 24 := by omega
      have hlt : s[0].toNat < 256 := UInt8.toNat_lt _
      have hw1 : wrap32 ((s[0].toNat : Nat) : Int) = ((s[0].toNat : Nat) : Int) := by unfold wrap32; omega
      have hw2 : IntKind.i32.wrap ((s[0].toNat : Nat) : Int) = ((s[0].toNat : Nat) : Int) := by rw [IntKind.wrap_i32]; omega
      have hl := hide (word_lex h0 h24)
      replace h24 := hide h24
      go_enter Tryd.func10, Tryd.ntmps10
      go_wp2_with fail
      refine (numB_any _ _).mono ?_
      rintro e w1 ⟨rfl, hw⟩
      rw [hw]
      clear hw
      cases hd : digZ ((s[0].toNat : Nat) : Int) with
      | true =>
        have hb : Hid (wordB s = false) := hide (by rw [← hl.out, hd]; rfl)
        replace hd := hide hd
        go_wp2
        go_ret
        exact ⟨by rw [hb.out]; rfl, Below.refl _ _⟩
      | false =>
        replace hd := hide hd
        go_wp2_with fail
        refine (while_any s 27 (fun c => letZ (c : Int) || digZ (c : Int)) goes_either enter_either hm _ hU.out).mono ?_
        rintro e w1 ⟨rfl, hE⟩
        obtain ⟨q, hq⟩ : ∃ q, q = whileN s (fun c => letZ (c : Int) || digZ (c : Int)) := ⟨_, rfl⟩
        rw [← hq]
        have hb : Hid (decide (q = s.size) = wordB s) := hide (by rw [← hl.out, hd.out, ← hq]; rfl)
        replace hq := hide hq
        by_cases he : q = s.size
        · have he' : ((q : Int) == (s.size : Int)) = true := by rw [beq_iff_eq]; omega
          have hb2 : Hid (wordB s = true) := hide (by rw [← hb.out, decide_eq_true he])
          subst he
          go_wp2
          go_ret
          exact ⟨by rw [hb2.out]; rfl, hE⟩
        · have he' : ((q : Int) == (s.size : Int)) = false := by rw [beq_eq_false_iff_ne]; omega
          have he2 : ¬ (q : Int) = (s.size : Int) := by omega
          have hb2 : Hid (wordB s = false) := hide (by rw [← hb.out, decide_eq_false he])
          replace he := hide he
          go_wp2
          go_ret
          exact ⟨by rw [hb2.out]; rfl, hE⟩
    · have h24' : ¬ (s.size : Int) ≤ 24 := by omega
      have hb : Hid (wordB s = false) := hide (by unfold wordB; rw [decide_eq_false h24, Bool.and_false, Bool.false_and])
      go_enter Tryd.func10, Tryd.ntmps10
      go_wp2
      go_ret
      exact ⟨by rw [hb.out]; rfl, Below.refl _ _⟩
set_option maxHeartbeats 2000000 in
theorem first_any (s : ByteArray) (w : World) (hm : s.size ≤ maxLen) (h0 : 0 < s.size) :
    Calls Tryd.prog 28 #[.string s] w fun e w' => e = .returned (.tuple #[.int .i32 (if okR s 0 = true then ((rune s 0 : Nat) : Int) else -1), .int .i64 (if okR s 0 = true then ((width s 0 : Nat) : Int) else 1)]) ∧ Ext w w' := by
  obtain ⟨y1, hy1⟩ : ∃ y, y = (if okR s 0 = true then ((rune s 0 : Nat) : Int) else -1) := ⟨_, rfl⟩
  obtain ⟨y2, hy2⟩ : ∃ y, y = (if okR s 0 = true then ((width s 0 : Nat) : Int) else 1) := ⟨_, rfl⟩
  rw [← hy1, ← hy2]
  replace hy1 := hide hy1
  replace hy2 := hide hy2
  go_enter Tryd.func28, Tryd.ntmps28
  go_wp2
  go_loopw [] (fun wr => w.iter s 0 = wr) (fun _ => 0)
  case atStart => rfl
  case round =>
    obtain rfl := hrel
    have hit := World.iter_heap w s 0
    have hnx : ∀ ty, (Instr.next (.pointer (some ⟨w.heap.size, 0, none⟩)) true ty).run Tryd.prog (w.iter s 0) = _ := fun ty => run_next_any_at (w.iter s 0) w.heap.size s 0 ty hit h0
    rw [show (Utf8.decode s 0).1 = rune s 0 from rfl, show 0 + (Utf8.decode s 0).2 = 0 + width s 0 from rfl] at hnx
    have hri := rune_le s 0
    have hE : Ext w ((w.iter s 0).iterAt w.heap.size s (0 + width s 0)) := below_iterAt ((Below.refl _ _).alloc (Nat.le_refl _) _) (Nat.le_refl _) _ _
    obtain ⟨w2, hw2⟩ : ∃ w2, w2 = (w.iter s 0).iterAt w.heap.size s (0 + width s 0) := ⟨_, rfl⟩
    rw [← hw2] at hnx hE
    clear hw2 hit
    have hwf := fun h => wrong_first h0 h
    have hwe := width_encode (s := s) (p := 0)
    have hok0 : rune s 0 ≠ 65533 → okR s 0 = true := fun h => by unfold okR; rw [decide_eq_false h]; rfl
    obtain ⟨r, hr⟩ : ∃ r, r = rune s 0 := ⟨_, rfl⟩
    rw [← hr] at hnx hri hwf hwe hok0
    replace hr := hide hr
    by_cases h1 : r = 65533
    · obtain ⟨hw1, hw2⟩ := hwf h1
      have he3 : (Utf8.encode 65533).size = 3 := by decide +kernel
      clear hwe hok0 hwf
      by_cases h3 : 3 ≤ s.size
      · have h3' : ¬ (s.size : Int) < 3 := by omega
        have h3'' : (3 : Int) ≤ (s.size : Int) := by omega
        rw [decide_eq_true h3, Bool.true_and] at hw1
        cases hp : (s.extract 0 3).toList == [239, 191, 189] with
        | true =>
          rw [hp] at hw1
          have v1 : Hid (y1 = 65533) := hide (by rw [hy1.out, if_pos hw1, ← hr.out, h1]; rfl)
          have v2 : Hid (y2 = 3) := hide (by rw [hy2.out, if_pos hw1, hw2 hw1]; rfl)
          replace hw1 := hide hw1
          replace hw2 := hide hw2
          subst h1
          go_wp2
          go_ret2
          exact ⟨by rw [v1.out, v2.out]; rfl, hE⟩
        | false =>
          rw [hp] at hw1
          have v1 : Hid (y1 = -1) := hide (by rw [hy1.out, if_neg (by rw [hw1]; decide)])
          have v2 : Hid (y2 = 1) := hide (by rw [hy2.out, if_neg (by rw [hw1]; decide)])
          replace hw1 := hide hw1
          replace hw2 := hide hw2
          subst h1
          go_wp2
          go_ret2
          exact ⟨by rw [v1.out, v2.out]; rfl, hE⟩
      · have h3' : (s.size : Int) < 3 := by omega
        rw [decide_eq_false h3, Bool.false_and] at hw1
        have v1 : Hid (y1 = -1) := hide (by rw [hy1.out, if_neg (by rw [hw1]; decide)])
        have v2 : Hid (y2 = 1) := hide (by rw [hy2.out, if_neg (by rw [hw1]; decide)])
        replace hw1 := hide hw1
        replace hw2 := hide hw2
        subst h1
        go_wp2
        go_ret2
        exact ⟨by rw [v1.out, v2.out]; rfl, hE⟩
    · have f1 : ((r : Int) == 65533) = false := by rw [beq_eq_false_iff_ne]; omega
      have f3 : ¬ (r : Int) = 65533 := by omega
      have hok := hok0 h1
      have hwe2 := hwe hok
      have v1 : Hid (y1 = r) := hide (by rw [hy1.out, if_pos hok, ← hr.out])
      have v2 : Hid (y2 = (width s 0 : Nat)) := hide (by rw [hy2.out, if_pos hok])
      clear hwe hok0 hwf
      replace hok := hide hok
      replace hwe2 := hide hwe2
      replace h1 := hide h1
      go_wp2
      go_ret2
      exact ⟨by rw [v1.out, v2.out, ← hwe2.out]; rfl, hE⟩
end Go.Proofs.YtlianjnmfgakkaaDoor
