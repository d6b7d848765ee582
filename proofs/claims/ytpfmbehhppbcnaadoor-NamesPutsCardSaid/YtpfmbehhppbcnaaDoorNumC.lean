/- names: Check, Fine. -/
import Derived.Test.YtpfmbehhppbcnaaDoorNumB
import Derived.Scope
namespace Go.Proofs.YtpfmbehhppbcnaaDoor
open Go.RowKit Go.Shelf
attribute [local go_sem] Oper.semAt_some

/-- may it be a name? 0: yes -/
def chkN (s : ByteArray) : Int := if wordB s = true then 0 else 200
theorem chkN_word {s : ByteArray} (h : wordB s = true) : chkN s = 0 := by unfold chkN; rw [if_pos h]
theorem chkN_not {s : ByteArray} (h : wordB s = false) : chkN s = 200 := by unfold chkN; rw [if_neg (by rw [h]; decide)]
theorem checkN_any (s : ByteArray) (w : World) (hm : s.size ≤ maxLen) (hU : LaidU w) :
    Calls Tryd.prog 19 #[.string s] w fun e w' => e = .returned (.int .i64 (chkN s)) ∧ Ext w w' := by
  go_enter Tryd.func19, Tryd.ntmps19
  go_wp2_with fail
  refine (word_any s _ hm hU).mono ?_
  rintro e w1 ⟨rfl, hE⟩
  cases h : wordB s with
  | true =>
    have hv := hide (chkN_word h)
    replace h := hide h
    go_wp2
    go_ret
    exact ⟨by rw [hv.out]; rfl, hE⟩
  | false =>
    have hv := hide (chkN_not h)
    replace h := hide h
    go_wp2
    go_ret
    exact ⟨by rw [hv.out]; rfl, hE⟩
/-- may a table be? -/
def fineB (xs : List ByteArray) : Bool := decide xs.Nodup && (xs.all wordB && decide (xs.length ≤ 300))
def finE (xs : List ByteArray) : Int := if fineB xs = true then 0 else 201
theorem takeW_le {α : Type} (p : α → Bool) (l : List α) : (l.takeWhile p).length ≤ l.length := (List.takeWhile_prefix (l := l) p).length_le
theorem takeW_mem {α : Type} (p : α → Bool) : ∀ (l : List α) (x : α), x ∈ l.takeWhile p → p x = true
  | a :: l, x, h => by
    rw [List.takeWhile_cons] at h
    split at h
    · rename_i ha
      rcases List.mem_cons.1 h with rfl | h
      · exact ha
      · exact takeW_mem p l x h
    · cases h
theorem takeW_all {α : Type} (p : α → Bool) : ∀ (l : List α), (∀ x ∈ l, p x = true) → l.takeWhile p = l
  | [], _ => rfl
  | a :: l, h => by rw [List.takeWhile_cons, if_pos (h a (List.mem_cons_self ..)), takeW_all p l fun x hx => h x (List.mem_cons_of_mem _ hx)]
/-- how many are told ahead of one that is no name -/
def many (xs : List ByteArray) : Nat := ((dd xs).takeWhile wordB).length
theorem many_fine (xs : List ByteArray) : (decide (many xs = xs.length) && decide (many xs ≤ 300)) = fineB xs := by
  have h1 := dd_le xs
  have h2 : many xs ≤ (dd xs).length := takeW_le _ _
  rw [Bool.eq_iff_iff, Bool.and_eq_true, decide_eq_true_iff, decide_eq_true_iff]
  unfold fineB
  rw [Bool.and_eq_true, Bool.and_eq_true, decide_eq_true_iff, decide_eq_true_iff, List.all_eq_true]
  constructor
  · rintro ⟨e1, e2⟩
    have hd : (dd xs).length = xs.length := by omega
    have hn := dd_full.1 hd
    refine ⟨hn, fun x hx => ?_, by omega⟩
    have h3 : (dd xs).takeWhile wordB = dd xs := by
      have hp := List.takeWhile_prefix (l := dd xs) wordB
      exact hp.eq_of_length (by show many xs = _; omega)
    rw [dd_self xs hn] at h3
    rw [← h3] at hx
    exact takeW_mem _ _ x hx
  · rintro ⟨hn, hw, h3⟩
    have hm : many xs = xs.length := by
      unfold many
      rw [dd_self xs hn, takeW_all _ _ hw]
    exact ⟨hm, by omega⟩
theorem nm_get {l : List ByteArray} {pre : List NumAt} (h : pre <+: nm l) : pre = nm (l.take pre.length) := by
  obtain ⟨r, hr⟩ := h
  have hl : pre.length ≤ l.length := by have := congrArg List.length hr; rw [nm_length, List.length_append] at this; omega
  have h1 : nm l = nm (l.take pre.length) ++ (nm l).drop pre.length := by
    have hp := nm_prefix (List.take_prefix pre.length l)
    obtain ⟨q, hq⟩ := hp
    have hlen : (nm (l.take pre.length)).length = pre.length := by rw [nm_length, List.length_take]; omega
    rw [← hq, List.drop_append_of_le_length (by omega), List.drop_eq_nil_of_le (by omega), List.nil_append]
  have h2 : pre = (nm l).take pre.length := by rw [← hr]; simp
  rw [h2, List.length_take]
  have hlen : (nm (l.take pre.length)).length = pre.length := by rw [nm_length, List.length_take]; omega
  have h3 : (nm l).take pre.length = nm (l.take pre.length) := by rw [h1, List.take_append_of_le_length (by omega), List.take_of_length_le (by omega)]
  rw [h3, Nat.min_eq_left (by rw [nm_length]; exact hl)]
end Go.Proofs.YtpfmbehhppbcnaaDoor
