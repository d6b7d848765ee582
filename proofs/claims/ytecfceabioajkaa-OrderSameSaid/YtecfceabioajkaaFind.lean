/- order.Find by halving, order.Unique. -/
import Derived.Test.YtecfceabioajkaaList
namespace Go.Proofs.Ytecfceabioajkaa
open Go.RowKit

def neS (x y : ByteArray) : Bool := !(x.toList == y.toList)
/-- a row without those that are the same as the one ahead -/
def uniq {α : Type} (ne : α → α → Bool) (xs : List α) : List α := xs.foldl (fun out x => match out.getLast? with | some y => if ne y x then out ++ [x] else out | none => [x]) []
theorem uniq_snoc {α : Type} (ne : α → α → Bool) (xs : List α) (x : α) :
    uniq ne (xs ++ [x]) = match (uniq ne xs).getLast? with | some y => if ne y x then uniq ne xs ++ [x] else uniq ne xs | none => [x] := by
  simp [uniq]

/-- where something stands, or would: a place between what is less and what is not -/
def Between {α : Type} (ask : α → Int) (xs : List α) (k : Nat) : Prop := k ≤ xs.length ∧ (∀ x, 0 < k → xs[k - 1]? = some x → ask x < 0) ∧ (∀ x, xs[k]? = some x → 0 ≤ ask x)

theorem uniq_len {α : Type} (ne : α → α → Bool) (xs : List α) : (uniq ne xs).length ≤ xs.length := by
  suffices ∀ n (xs : List α), xs.length = n → (uniq ne xs).length ≤ n from this _ _ rfl
  intro n
  induction n with
  | zero => intro xs h; rw [List.eq_nil_of_length_eq_zero h]; simp [uniq]
  | succ n ih =>
    intro xs h
    obtain ⟨ys, x, rfl⟩ : ∃ ys x, xs = ys ++ [x] := ⟨xs.dropLast, xs.getLast (by intro h'; subst h'; simp at h), (List.dropLast_concat_getLast _).symm⟩
    have := ih ys (by simpa using h)
    rw [uniq_snoc]
    split
    · split <;> simp <;> omega
    · simp
/-- the last one told is one with the last one of the row -/
theorem uniq_last {α : Type} (ne : α → α → Bool) (hne : ∀ x y z, ne x y = false → ne x z = ne y z) : ∀ (xs : List α) (x : α), xs.getLast? = some x → ∃ y, (uniq ne xs).getLast? = some y ∧ ∀ z, ne y z = ne x z := by
  intro xs x h
  obtain ⟨ys, rfl⟩ : ∃ ys, xs = ys ++ [x] := by
    rcases List.eq_nil_or_concat xs with rfl | ⟨ys, y, rfl⟩
    · simp at h
    · simp at h; subst h; exact ⟨ys, by simp⟩
  rw [uniq_snoc]
  cases hu : (uniq ne ys).getLast? with
  | none => exact ⟨x, by simp, fun _ => rfl⟩
  | some u =>
    simp only
    cases hx : ne u x
    · exact ⟨u, by simp [hu], fun z => hne _ _ _ hx⟩
    · exact ⟨x, by simp, fun _ => rfl⟩
theorem neP_cong : ∀ x y z : Int × Int, neP x y = false → neP x z = neP y z := by intro x y z h; simp [neP] at h; rw [h]
theorem neS_cong : ∀ x y z : ByteArray, neS x y = false → neS x z = neS y z := by intro x y z h; simp [neS] at h ⊢; rw [h]

/-- does it stand there? -/
def foundB {α : Type} (ask : α → Int) (xs : List α) (k : Nat) : Bool := match xs[k]? with | some x => ask x == 0 | none => false
theorem foundB_some {α : Type} {ask : α → Int} {xs : List α} {k : Nat} {x : α} (h : xs[k]? = some x) : foundB ask xs k = (ask x == 0) := by simp [foundB, h]
theorem foundB_none {α : Type} {ask : α → Int} {xs : List α} {k : Nat} (h : xs.length ≤ k) : foundB ask xs k = false := by simp [foundB, List.getElem?_eq_none h]

/-- the closure asked: what it says of an element, in whatever world that has grown from w -/
def Asks_Pair (g : Nat) (cb : Array Value) (ask : (Int × Int) → Int) (w : World) : Prop := (∀ args W, (callFunc g args).run Try.prog W = .ok (.enter g args) W) ∧ ∀ p1 p2 W, Ext w W → Calls Try.prog g (#[.agg #[.int .i64 p1, .int .i64 p2]] ++ cb) W fun e w' => e = .returned (.int .i64 (ask (p1, p2))) ∧ Ext W w'

set_option maxHeartbeats 1000000 in
theorem find_Pair (A : Option Addr) (n c g : Nat) (cb : Array Value) (ask : (Int × Int) → Int) (xs : List (Int × Int)) (w : World) (hn : n = xs.length) (h : Rd pairE w.heap.size w A xs) (hb : n ≤ 1000000) (hask : Asks_Pair g cb ask w) :
    Calls Try.prog 22 #[.slice A n c, .func (.func g) #[] cb] w fun e w' => ∃ k : Nat, Between ask xs k ∧ e = .returned (.tuple #[.int .i64 k, .bool (match xs[k]? with | some x => ask x == 0 | none => false)]) ∧ Ext w w' := by
  replace hn := hide hn
  replace h := hide h
  obtain ⟨hent, hask⟩ := hask
  replace hask := hide hask
  go_enter Try.func22, Try.ntmps22
  go_wp2
  go_loopw [6, 7] (fun i j wr => ∃ lo hi : Nat, lo ≤ hi ∧ hi ≤ n ∧ i = .int .i64 lo ∧ j = .int .i64 hi ∧ Hid (∀ x, 0 < lo → xs[lo - 1]? = some x → ask x < 0) ∧ Hid (∀ x, xs[hi]? = some x → 0 ≤ ask x) ∧ Below w.heap.size w wr) (fun i j _ => (intOf j).toNat - (intOf i).toNat)
  case atStart => exact ⟨0, n, Nat.zero_le _, Nat.le_refl _, rfl, rfl, hide (fun x h => by omega), hide (fun x hx => by rw [hn.out] at hx; simp at hx), Below.refl _ _⟩
  case round =>
    obtain ⟨lo, hi, hlh, hhn, rfl, rfl, hlo, hhi, hB⟩ := hrel
    obtain ⟨hc, hf⟩ := bcell hB
    have hsz := hB.size
    by_cases hlt : lo < hi
    · obtain ⟨mid, hmid⟩ : ∃ m, m = lo + (hi - lo) / 2 := ⟨_, rfl⟩
      have hm1 : lo ≤ mid := by omega
      have hm2 : mid < hi := by omega
      obtain ⟨b, off, rfl, hra⟩ := h.out.at_ (i := mid) (by rw [← hn.out]; omega)
      have hb1 := hra.1
      obtain ⟨⟨p1, p2⟩, hx⟩ := get_some (i := mid) (by rw [← hn.out]; omega)
      obtain ⟨hx1, hx2⟩ := hra.pair hx
      replace hx := hide hx
      replace hra := hide hra
      have hmI : (lo : Int) + ((hi : Int) - (lo : Int)) / 2 = (mid : Int) := by omega
      replace hmid := hide hmid
      have hm3 : (mid : Int) < (n : Int) := by omega
      go_wp2_with fail
      refine (hask.out p1 p2 wr hB).mono ?_
      rintro e w2 ⟨rfl, hE⟩
      have hB2 := hB.trans (hE.mono hsz)
      by_cases hneg : ask (p1, p2) < 0
      · go_wp2
        refine ⟨?_, ?_⟩
        · first
            | exact ⟨mid + 1, hi, by omega, hhn, by go_num, rfl, hide (fun x _ hx' => by rw [Nat.add_sub_cancel, hx.out] at hx'; cases hx'; exact hneg), hhi, hB2⟩
            | ((repeat apply Exists.intro); exact ⟨⟨mid + 1, hi, by omega, hhn, by go_num, rfl, hide (fun x _ hx' => by rw [Nat.add_sub_cancel, hx.out] at hx'; cases hx'; exact hneg), hhi, hB2⟩, rfl⟩)
        · first | (simp [intOf, lenV]; omega) | (simp [intOf]; omega)
      · go_wp2
        refine ⟨?_, ?_⟩
        · first
            | exact ⟨lo, mid, by omega, by omega, rfl, rfl, hlo, hide (fun x hx' => by rw [hx.out] at hx'; cases hx'; omega), hB2⟩
            | ((repeat apply Exists.intro); exact ⟨⟨lo, mid, by omega, by omega, rfl, rfl, hlo, hide (fun x hx' => by rw [hx.out] at hx'; cases hx'; omega), hB2⟩, rfl⟩)
        · first | (simp [intOf, lenV]; omega) | (simp [intOf]; omega)
    · obtain rfl : lo = hi := by omega
      by_cases hln : lo < n
      · obtain ⟨b, off, rfl, hra⟩ := h.out.at_ (i := lo) (by rw [← hn.out]; omega)
        have hb1 := hra.1
        obtain ⟨⟨p1, p2⟩, hx⟩ := get_some (i := lo) (by rw [← hn.out]; omega)
        obtain ⟨hx1, hx2⟩ := hra.pair hx
        replace hx := hide hx
        replace hra := hide hra
        have hm3 : (lo : Int) < (n : Int) := by omega
        go_wp2_with fail
        refine (hask.out p1 p2 wr hB).mono ?_
        rintro e w2 ⟨rfl, hE⟩
        have hB2 := hB.trans (hE.mono hsz)
        go_wp2
        go_ret2
        refine ⟨lo, ⟨by rw [← hn.out]; omega, hlo.out, hhi.out⟩, ?_, hB2⟩
        show Ending.returned (.tuple #[.int .i64 lo, .bool (ask (p1, p2) == 0)]) = _
        rw [hx.out]
      · have hm3 : (n : Int) ≤ (lo : Int) := by omega
        go_wp2
        go_ret2
        refine ⟨lo, ⟨by rw [← hn.out]; omega, hlo.out, hhi.out⟩, ?_, hB⟩
        show Ending.returned (.tuple #[.int .i64 lo, .bool false]) = _
        rw [List.getElem?_eq_none (by rw [← hn.out]; omega)]
theorem found_Pair (A : Option Addr) (n c g : Nat) (cb : Array Value) (ask : (Int × Int) → Int) (xs : List (Int × Int)) (w : World) (hn : n = xs.length) (h : Rd pairE w.heap.size w A xs) (hb : n ≤ 1000000) (hask : Asks_Pair g cb ask w) :
    Calls Try.prog 22 #[.slice A n c, .func (.func g) #[] cb] w fun e w' => ∃ k : Nat, Between ask xs k ∧ e = .returned (.tuple #[.int .i64 k, .bool (foundB ask xs k)]) ∧ Ext w w' :=
  (find_Pair A n c g cb ask xs w hn h hb hask).mono fun _ _ ⟨k, h1, h2, h3⟩ => ⟨k, h1, h2.trans (by unfold foundB; cases xs[k]? <;> rfl), h3⟩
/-- the closure asked: what it says of an element, in whatever world that has grown from w -/
def Asks_Str (g : Nat) (cb : Array Value) (ask : ByteArray → Int) (w : World) : Prop := (∀ args W, (callFunc g args).run Try.prog W = .ok (.enter g args) W) ∧ ∀ p1 W, Ext w W → Calls Try.prog g (#[.string p1] ++ cb) W fun e w' => e = .returned (.int .i64 (ask p1)) ∧ Ext W w'

set_option maxHeartbeats 1000000 in
theorem find_Str (A : Option Addr) (n c g : Nat) (cb : Array Value) (ask : ByteArray → Int) (xs : List ByteArray) (w : World) (hn : n = xs.length) (h : Rd strE w.heap.size w A xs) (hb : n ≤ 1000000) (hask : Asks_Str g cb ask w) :
    Calls Try.prog 28 #[.slice A n c, .func (.func g) #[] cb] w fun e w' => ∃ k : Nat, Between ask xs k ∧ e = .returned (.tuple #[.int .i64 k, .bool (match xs[k]? with | some x => ask x == 0 | none => false)]) ∧ Ext w w' := by
  replace hn := hide hn
  replace h := hide h
  obtain ⟨hent, hask⟩ := hask
  replace hask := hide hask
  go_enter Try.func28, Try.ntmps28
  go_wp2
  go_loopw [6, 7] (fun i j wr => ∃ lo hi : Nat, lo ≤ hi ∧ hi ≤ n ∧ i = .int .i64 lo ∧ j = .int .i64 hi ∧ Hid (∀ x, 0 < lo → xs[lo - 1]? = some x → ask x < 0) ∧ Hid (∀ x, xs[hi]? = some x → 0 ≤ ask x) ∧ Below w.heap.size w wr) (fun i j _ => (intOf j).toNat - (intOf i).toNat)
  case atStart => exact ⟨0, n, Nat.zero_le _, Nat.le_refl _, rfl, rfl, hide (fun x h => by omega), hide (fun x hx => by rw [hn.out] at hx; simp at hx), Below.refl _ _⟩
  case round =>
    obtain ⟨lo, hi, hlh, hhn, rfl, rfl, hlo, hhi, hB⟩ := hrel
    obtain ⟨hc, hf⟩ := bcell hB
    have hsz := hB.size
    by_cases hlt : lo < hi
    · obtain ⟨mid, hmid⟩ : ∃ m, m = lo + (hi - lo) / 2 := ⟨_, rfl⟩
      have hm1 : lo ≤ mid := by omega
      have hm2 : mid < hi := by omega
      obtain ⟨b, off, rfl, hra⟩ := h.out.at_ (i := mid) (by rw [← hn.out]; omega)
      have hb1 := hra.1
      obtain ⟨p1, hx⟩ := get_some (i := mid) (by rw [← hn.out]; omega)
      have hx1 := hra.str hx
      replace hx := hide hx
      replace hra := hide hra
      have hmI : (lo : Int) + ((hi : Int) - (lo : Int)) / 2 = (mid : Int) := by omega
      replace hmid := hide hmid
      have hm3 : (mid : Int) < (n : Int) := by omega
      go_wp2_with fail
      refine (hask.out p1 wr hB).mono ?_
      rintro e w2 ⟨rfl, hE⟩
      have hB2 := hB.trans (hE.mono hsz)
      by_cases hneg : ask p1 < 0
      · go_wp2
        refine ⟨?_, ?_⟩
        · first
            | exact ⟨mid + 1, hi, by omega, hhn, by go_num, rfl, hide (fun x _ hx' => by rw [Nat.add_sub_cancel, hx.out] at hx'; cases hx'; exact hneg), hhi, hB2⟩
            | ((repeat apply Exists.intro); exact ⟨⟨mid + 1, hi, by omega, hhn, by go_num, rfl, hide (fun x _ hx' => by rw [Nat.add_sub_cancel, hx.out] at hx'; cases hx'; exact hneg), hhi, hB2⟩, rfl⟩)
        · first | (simp [intOf, lenV]; omega) | (simp [intOf]; omega)
      · go_wp2
        refine ⟨?_, ?_⟩
        · first
            | exact ⟨lo, mid, by omega, by omega, rfl, rfl, hlo, hide (fun x hx' => by rw [hx.out] at hx'; cases hx'; omega), hB2⟩
            | ((repeat apply Exists.intro); exact ⟨⟨lo, mid, by omega, by omega, rfl, rfl, hlo, hide (fun x hx' => by rw [hx.out] at hx'; cases hx'; omega), hB2⟩, rfl⟩)
        · first | (simp [intOf, lenV]; omega) | (simp [intOf]; omega)
    · obtain rfl : lo = hi := by omega
      by_cases hln : lo < n
      · obtain ⟨b, off, rfl, hra⟩ := h.out.at_ (i := lo) (by rw [← hn.out]; omega)
        have hb1 := hra.1
        obtain ⟨p1, hx⟩ := get_some (i := lo) (by rw [← hn.out]; omega)
        have hx1 := hra.str hx
        replace hx := hide hx
        replace hra := hide hra
        have hm3 : (lo : Int) < (n : Int) := by omega
        go_wp2_with fail
        refine (hask.out p1 wr hB).mono ?_
        rintro e w2 ⟨rfl, hE⟩
        have hB2 := hB.trans (hE.mono hsz)
        go_wp2
        go_ret2
        refine ⟨lo, ⟨by rw [← hn.out]; omega, hlo.out, hhi.out⟩, ?_, hB2⟩
        show Ending.returned (.tuple #[.int .i64 lo, .bool (ask p1 == 0)]) = _
        rw [hx.out]
      · have hm3 : (n : Int) ≤ (lo : Int) := by omega
        go_wp2
        go_ret2
        refine ⟨lo, ⟨by rw [← hn.out]; omega, hlo.out, hhi.out⟩, ?_, hB⟩
        show Ending.returned (.tuple #[.int .i64 lo, .bool false]) = _
        rw [List.getElem?_eq_none (by rw [← hn.out]; omega)]
theorem found_Str (A : Option Addr) (n c g : Nat) (cb : Array Value) (ask : ByteArray → Int) (xs : List ByteArray) (w : World) (hn : n = xs.length) (h : Rd strE w.heap.size w A xs) (hb : n ≤ 1000000) (hask : Asks_Str g cb ask w) :
    Calls Try.prog 28 #[.slice A n c, .func (.func g) #[] cb] w fun e w' => ∃ k : Nat, Between ask xs k ∧ e = .returned (.tuple #[.int .i64 k, .bool (foundB ask xs k)]) ∧ Ext w w' :=
  (find_Str A n c g cb ask xs w hn h hb hask).mono fun _ _ ⟨k, h1, h2, h3⟩ => ⟨k, h1, h2.trans (by unfold foundB; cases xs[k]? <;> rfl), h3⟩

set_option maxHeartbeats 2000000 in
theorem unique_Pair (A : Option Addr) (n c : Nat) (xs : List (Int × Int)) (w : World) (hn : n = xs.length) (h : Rd pairE w.heap.size w A xs) (hb : n ≤ 1000000) :
    Calls Try.prog 19 #[.slice A n c] w fun e w' => ∃ v, e = .returned v ∧ Own pairE 26 w.heap.size w' v (uniq neP xs) ∧ Ext w w' := by
  replace hn := hide hn
  replace h := hide h
  go_enter Try.func19, Try.ntmps19
  go_wp2
  go_loopw [3, 8] (fun o i wr => ∃ k : Nat, k ≤ n ∧ i = .int .i64 k ∧ Hid (Own pairE 26 w.heap.size wr o (uniq neP (xs.take k))) ∧ Below w.heap.size w wr) (fun _ i _ => n - (intOf i).toNat)
  case atStart => exact ⟨0, by omega, rfl, hide Own.nil_, Below.refl _ _⟩
  case round =>
    obtain ⟨k, hk, rfl, hown, hB⟩ := hrel
    obtain ⟨hc, hf⟩ := bcell hB
    have hsz := hB.size
    by_cases hlt : k < n
    · obtain ⟨b, off, rfl, hra⟩ := h.out.at_ (i := k) (by rw [← hn.out]; exact hlt)
      have hb1 := hra.1
      obtain ⟨⟨p1, p2⟩, hx⟩ := get_some (i := k) (by rw [← hn.out]; exact hlt)
      obtain ⟨hx1, hx2⟩ := hra.pair hx
      replace hx := hide hx
      have hk1 : (k : Int) < (n : Int) := by omega
      have hul : (uniq neP (xs.take k)).length ≤ 1000000 := by have := uniq_len neP (xs.take k); rw [List.length_take] at this; omega
      have hb' : b < wr.heap.size := by omega
      by_cases hk0 : k = 0
      · have hkB : ((k : Int) == 0) = true := by simp [hk0]
        have hu0 : uniq neP (xs.take k ++ [(p1, p2)]) = uniq neP (xs.take k) ++ [(p1, p2)] := by rw [hk0]; simp [uniq]
        replace hu0 := hide hu0
        replace hra := hide hra
        clear hk0
        go_wp2
        refine wp_region_reads [(0, true), (1, true), (2, true), (3, true), (4, true), (5, true), (6, true), (7, true), (8, true), (9, true), (10, true)] (by kernel_rfl) (by kernel_rfl) (by kernel_rfl) (by kernel_rfl) (fun _ _ d _ _ h => by cases d <;> exact h) ?_
        iterate 3
          apply mix_q rfl rfl
          · intro W hW
            subst hW
            go_simp
            try exact rfl
          simp only [Act.put, List.setIfInBounds_toArray, List.set_cons_zero, List.set_cons_succ]
        iterate 7
          refine mix_off rfl (wanted_is rfl rfl rfl rfl rfl) ?_
          simp only [Act.put, List.setIfInBounds_toArray, List.set_cons_zero, List.set_cons_succ]
        iterate 1
          apply mix_q rfl rfl
          · intro W hW
            subst hW
            go_simp
            try exact rfl
          simp only [Act.put, List.setIfInBounds_toArray, List.set_cons_zero, List.set_cons_succ]
        refine mix_nil ?_
        go_wp2_with (at_builtin; (refine wpList_app (ys := [(p1, p2)]) tyPair rfl (.tmp 24) (.tmp 26) rfl rfl (((hown.out.alloc (.cells #[.int .i64 p1, .int .i64 p2] 26)).alloc _).drew) rfl (Rd.drew (rd_newAt pairE (wr.alloc (.cells #[.int .i64 p1, .int .i64 p2] 26)) (p1, p2) (wr.heap.size + 1) (by simp))) rfl (by first | omega | (simp only [List.length_cons, List.length_nil]; omega) | (simp; omega)) (by first | omega | (simp only [World.size_alloc, World.size_drew]; omega)) ?_))
        intro v3 w3 hown3 hg3 _ _
        have hoA := ((hown.out.alloc (.cells #[.int .i64 p1, .int .i64 p2] 26)).alloc (.cells #[.int .i64 p1, .int .i64 p2] 26)).drew
        have hB3 : Below w.heap.size w w3 := hoA.below ((hB.alloc hsz _).alloc (by simp; omega) _).drew hg3 (by simp; omega)
        replace hown3 := hide hown3
        clear hoA hg3
        go_wp2
        refine ⟨?_, ?_⟩
        · first
            | exact ⟨k + 1, by omega, by go_num, hide (by rw [take_snoc hx.out, hu0.out]; exact hown3.out), hB3⟩
            | ((repeat apply Exists.intro); exact ⟨⟨k + 1, by omega, by go_num, hide (by rw [take_snoc hx.out, hu0.out]; exact hown3.out), hB3⟩, rfl⟩)
        · first | (simp [intOf, lenV]; omega) | (simp [intOf]; omega)
      · have hkB : ((k : Int) == 0) = false := by simp; omega
        obtain ⟨⟨q1, q2⟩, hy⟩ := get_some (i := (k) - 1) (by rw [← hn.out]; omega)
        obtain ⟨hy1, hy2⟩ := hra.pair hy
        replace hy := hide hy
        have s1 : IntKind.i64.wrap ((k : Int) - 1) = (k : Int) - 1 := IntWalk.i64_in _ (by omega)
        have s2 : (0 : Int) ≤ (k : Int) - 1 := by omega
        have s3 : ((k : Int) - 1).toNat = k - 1 := by omega
        have s4 : (k : Int) - 1 < (n : Int) := by omega
        have s5 : (1 : Int) ≤ (k : Int) := by omega
        have hlast := hide (uniq_last neP neP_cong (xs.take k) (q1, q2) (by
          have := hy.out
          rw [List.getLast?_eq_getElem?, List.length_take, Nat.min_eq_left (by rw [← hn.out]; omega), List.getElem?_take, if_pos (by omega)]
          exact this))
        replace hra := hide hra
        go_wp2
        refine wp_region_reads [(0, true), (1, true), (2, true), (3, true), (4, true), (5, true), (6, true), (7, true), (8, true), (9, true), (10, true)] (by kernel_rfl) (by kernel_rfl) (by kernel_rfl) (by kernel_rfl) (fun _ _ d _ _ h => by cases d <;> exact h) ?_
        iterate 3
          apply mix_q rfl rfl
          · intro W hW
            subst hW
            go_simp
            try exact rfl
          simp only [Act.put, List.setIfInBounds_toArray, List.set_cons_zero, List.set_cons_succ]
        iterate 7
          apply mix_on rfl (wanted_is rfl rfl rfl rfl rfl)
          · intro W hW
            subst hW
            go_simp
            try exact rfl
          simp only [Act.put, List.setIfInBounds_toArray, List.set_cons_zero, List.set_cons_succ]
        iterate 1
          apply mix_q rfl rfl
          · intro W hW
            subst hW
            go_simp
            try exact rfl
          simp only [Act.put, List.setIfInBounds_toArray, List.set_cons_zero, List.set_cons_succ]
        refine mix_nil ?_
        cases hne : neP (q1, q2) (p1, p2)
        · go_wp2
          refine ⟨?_, ?_⟩
          · first
              | exact ⟨k + 1, by omega, by go_num, hide (by rw [take_snoc hx.out, uniq_snoc]; obtain ⟨y, h1, h2⟩ := hlast.out; rw [h1]; simp only [h2 (p1, p2), hne]; exact hown.out.alloc _), (hB.alloc hsz _).drew⟩
              | ((repeat apply Exists.intro); exact ⟨⟨k + 1, by omega, by go_num, hide (by rw [take_snoc hx.out, uniq_snoc]; obtain ⟨y, h1, h2⟩ := hlast.out; rw [h1]; simp only [h2 (p1, p2), hne]; exact hown.out.alloc _), (hB.alloc hsz _).drew⟩, rfl⟩)
          · first | (simp [intOf, lenV]; omega) | (simp [intOf]; omega)
        · go_wp2_with (at_builtin; (refine wpList_app (ys := [(p1, p2)]) tyPair rfl (.tmp 24) (.tmp 26) rfl rfl (((hown.out.alloc (.cells #[.int .i64 p1, .int .i64 p2] 26)).alloc _).drew) rfl (Rd.drew (rd_newAt pairE (wr.alloc (.cells #[.int .i64 p1, .int .i64 p2] 26)) (p1, p2) (wr.heap.size + 1) (by simp))) rfl (by first | omega | (simp only [List.length_cons, List.length_nil]; omega) | (simp; omega)) (by first | omega | (simp only [World.size_alloc, World.size_drew]; omega)) ?_))
          intro v3 w3 hown3 hg3 _ _
          have hoA := ((hown.out.alloc (.cells #[.int .i64 p1, .int .i64 p2] 26)).alloc (.cells #[.int .i64 p1, .int .i64 p2] 26)).drew
          have hB3 : Below w.heap.size w w3 := hoA.below ((hB.alloc hsz _).alloc (by simp; omega) _).drew hg3 (by simp; omega)
          replace hown3 := hide hown3
          clear hoA hg3
          go_wp2
          refine ⟨?_, ?_⟩
          · first
              | exact ⟨k + 1, by omega, by go_num, hide (by rw [take_snoc hx.out, uniq_snoc]; obtain ⟨y, h1, h2⟩ := hlast.out; rw [h1]; simp only [h2 (p1, p2), hne]; exact hown3.out), hB3⟩
              | ((repeat apply Exists.intro); exact ⟨⟨k + 1, by omega, by go_num, hide (by rw [take_snoc hx.out, uniq_snoc]; obtain ⟨y, h1, h2⟩ := hlast.out; rw [h1]; simp only [h2 (p1, p2), hne]; exact hown3.out), hB3⟩, rfl⟩)
          · first | (simp [intOf, lenV]; omega) | (simp [intOf]; omega)
    · have hkn : k = n := by omega
      go_wp2
      go_ret
      refine ⟨_, rfl, ?_, hB⟩
      have := hown.out
      rw [List.take_of_length_le (by rw [← hn.out]; omega)] at this
      exact this
set_option maxHeartbeats 2000000 in
theorem unique_Str (A : Option Addr) (n c : Nat) (xs : List ByteArray) (w : World) (hn : n = xs.length) (h : Rd strE w.heap.size w A xs) (hb : n ≤ 1000000) :
    Calls Try.prog 27 #[.slice A n c] w fun e w' => ∃ v, e = .returned v ∧ Own strE 9 w.heap.size w' v (uniq neS xs) ∧ Ext w w' := by
  replace hn := hide hn
  replace h := hide h
  go_enter Try.func27, Try.ntmps27
  go_wp2
  go_loopw [3, 8] (fun o i wr => ∃ k : Nat, k ≤ n ∧ i = .int .i64 k ∧ Hid (Own strE 9 w.heap.size wr o (uniq neS (xs.take k))) ∧ Below w.heap.size w wr) (fun _ i _ => n - (intOf i).toNat)
  case atStart => exact ⟨0, by omega, rfl, hide Own.nil_, Below.refl _ _⟩
  case round =>
    obtain ⟨k, hk, rfl, hown, hB⟩ := hrel
    obtain ⟨hc, hf⟩ := bcell hB
    have hsz := hB.size
    by_cases hlt : k < n
    · obtain ⟨b, off, rfl, hra⟩ := h.out.at_ (i := k) (by rw [← hn.out]; exact hlt)
      have hb1 := hra.1
      obtain ⟨p1, hx⟩ := get_some (i := k) (by rw [← hn.out]; exact hlt)
      have hx1 := hra.str hx
      replace hx := hide hx
      have hk1 : (k : Int) < (n : Int) := by omega
      have hul : (uniq neS (xs.take k)).length ≤ 1000000 := by have := uniq_len neS (xs.take k); rw [List.length_take] at this; omega
      have hb' : b < wr.heap.size := by omega
      by_cases hk0 : k = 0
      · have hkB : ((k : Int) == 0) = true := by simp [hk0]
        have hu0 : uniq neS (xs.take k ++ [p1]) = uniq neS (xs.take k) ++ [p1] := by rw [hk0]; simp [uniq]
        replace hu0 := hide hu0
        replace hra := hide hra
        clear hk0
        go_wp2_with (at_builtin; (refine wpList_app (ys := [p1]) tyStr rfl (.tmp 24) (.tmp 26) rfl rfl (hown.out.alloc _) rfl (rd_newAt strE wr p1 wr.heap.size rfl) rfl (by first | omega | (simp only [List.length_cons, List.length_nil]; omega) | (simp; omega)) (by first | omega | (simp only [World.size_alloc, World.size_drew]; omega)) ?_))
        intro v3 w3 hown3 hg3 _ _
        have hoA := hown.out.alloc (.cells #[.string p1] 9)
        have hB3 : Below w.heap.size w w3 := hoA.below (hB.alloc hsz _) hg3 (by simp; omega)
        replace hown3 := hide hown3
        clear hoA hg3
        go_wp2
        refine ⟨?_, ?_⟩
        · first
            | exact ⟨k + 1, by omega, by go_num, hide (by rw [take_snoc hx.out, hu0.out]; exact hown3.out), hB3⟩
            | ((repeat apply Exists.intro); exact ⟨⟨k + 1, by omega, by go_num, hide (by rw [take_snoc hx.out, hu0.out]; exact hown3.out), hB3⟩, rfl⟩)
        · first | (simp [intOf, lenV]; omega) | (simp [intOf]; omega)
      · have hkB : ((k : Int) == 0) = false := by simp; omega
        obtain ⟨q1, hy⟩ := get_some (i := (k) - 1) (by rw [← hn.out]; omega)
        have hy1 := hra.str hy
        replace hy := hide hy
        have s1 : IntKind.i64.wrap ((k : Int) - 1) = (k : Int) - 1 := IntWalk.i64_in _ (by omega)
        have s2 : (0 : Int) ≤ (k : Int) - 1 := by omega
        have s3 : ((k : Int) - 1).toNat = k - 1 := by omega
        have s4 : (k : Int) - 1 < (n : Int) := by omega
        have s5 : (1 : Int) ≤ (k : Int) := by omega
        have hlast := hide (uniq_last neS neS_cong (xs.take k) q1 (by
          have := hy.out
          rw [List.getLast?_eq_getElem?, List.length_take, Nat.min_eq_left (by rw [← hn.out]; omega), List.getElem?_take, if_pos (by omega)]
          exact this))
        replace hra := hide hra
        cases hne : neS q1 p1
        · have hne' : (!(q1.toList == p1.toList)) = false := hne
          replace hne := hide hne
          go_wp2
          refine ⟨?_, ?_⟩
          · first
              | exact ⟨k + 1, by omega, by go_num, hide (by rw [take_snoc hx.out, uniq_snoc]; obtain ⟨y, h1, h2⟩ := hlast.out; rw [h1]; simp only [h2 p1, hne.out]; exact hown.out), hB⟩
              | ((repeat apply Exists.intro); exact ⟨⟨k + 1, by omega, by go_num, hide (by rw [take_snoc hx.out, uniq_snoc]; obtain ⟨y, h1, h2⟩ := hlast.out; rw [h1]; simp only [h2 p1, hne.out]; exact hown.out), hB⟩, rfl⟩)
          · first | (simp [intOf, lenV]; omega) | (simp [intOf]; omega)
        · have hne' : (!(q1.toList == p1.toList)) = true := hne
          replace hne := hide hne
          go_wp2_with (at_builtin; (refine wpList_app (ys := [p1]) tyStr rfl (.tmp 24) (.tmp 26) rfl rfl (hown.out.alloc _) rfl (rd_newAt strE wr p1 wr.heap.size rfl) rfl (by first | omega | (simp only [List.length_cons, List.length_nil]; omega) | (simp; omega)) (by first | omega | (simp only [World.size_alloc, World.size_drew]; omega)) ?_))
          intro v3 w3 hown3 hg3 _ _
          have hoA := hown.out.alloc (.cells #[.string p1] 9)
          have hB3 : Below w.heap.size w w3 := hoA.below (hB.alloc hsz _) hg3 (by simp; omega)
          replace hown3 := hide hown3
          clear hoA hg3
          go_wp2
          refine ⟨?_, ?_⟩
          · first
              | exact ⟨k + 1, by omega, by go_num, hide (by rw [take_snoc hx.out, uniq_snoc]; obtain ⟨y, h1, h2⟩ := hlast.out; rw [h1]; simp only [h2 p1, hne.out]; exact hown3.out), hB3⟩
              | ((repeat apply Exists.intro); exact ⟨⟨k + 1, by omega, by go_num, hide (by rw [take_snoc hx.out, uniq_snoc]; obtain ⟨y, h1, h2⟩ := hlast.out; rw [h1]; simp only [h2 p1, hne.out]; exact hown3.out), hB3⟩, rfl⟩)
          · first | (simp [intOf, lenV]; omega) | (simp [intOf]; omega)
    · have hkn : k = n := by omega
      go_wp2
      go_ret
      refine ⟨_, rfl, ?_, hB⟩
      have := hown.out
      rw [List.take_of_length_le (by rw [← hn.out]; omega)] at this
      exact this
end Go.Proofs.Ytecfceabioajkaa
