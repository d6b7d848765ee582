/- Levels and guarantees: contracts of level.Guarantees, check, each, Join, Meet, Below. -/
import Derived.Test.YtbmcbbcgambflaaDoorLevA
import Derived.WalkMore
namespace Go.Proofs.YtbmcbbcgambflaaDoor
open Go.RowKit

/-- the guarantees of a text, if they are any's -/
def gua (s : ByteArray) : Option Nat := (List.range 16).find? fun g => decide (wordsB g = s)
def guaN (s : ByteArray) : Int := match gua s with | some g => g | none => 0
def guaE (s : ByteArray) : Int := match gua s with | some _ => 0 | none => 190
theorem gua_at {s : ByteArray} {k : Nat} (hk : k < 16) (h : wordsB k = s) (hb : ∀ j, j < k → wordsB j ≠ s) : gua s = some k := by
  unfold gua
  rw [List.find?_range_eq_some]
  exact ⟨by simpa using h, by simpa using hk, fun j hj => by simpa using hb j hj⟩
theorem gua_none {s : ByteArray} (hb : ∀ j, j < 16 → wordsB j ≠ s) : gua s = none := by
  unfold gua
  rw [List.find?_eq_none]
  intro x hx
  simpa using hb x (List.mem_range.1 hx)
theorem gua_some {s : ByteArray} {g : Nat} (h : gua s = some g) : g < 16 ∧ wordsB g = s := by
  unfold gua at h
  have h1 := List.find?_some h
  have h2 := List.mem_of_find?_eq_some h
  exact ⟨List.mem_range.1 h2, by simpa using h1⟩
theorem eq_lists {a b : ByteArray} : (a.toList == b.toList) = decide (a = b) := by
  by_cases h : a = b
  · subst h
    simp
  · rw [decide_eq_false h, beq_eq_false_iff_ne]
    intro e
    apply h
    rw [Lib.toList_data, Lib.toList_data] at e
    apply ByteArray.ext
    exact Array.toList_inj.1 e
set_option maxHeartbeats 2000000 in
theorem guar_any (s : ByteArray) (w : World) (hL : LaidAt w) :
    Calls Tryd.prog 16 #[.string s] w fun e w' => e = .returned (.tuple #[.int .i64 (guaN s), .int .i64 (guaE s)]) ∧ Ext w w' := by
  replace hL := hide hL
  go_enter Tryd.func16, Tryd.ntmps16
  go_wp2
  go_loopw [7] (fun i wr => ∃ k : Nat, k ≤ 16 ∧ i = .int .i64 k ∧ Hid (∀ j, j < k → wordsB j ≠ s) ∧ Ext w wr) (fun i _ => 16 - (intOf i).toNat)
  case atStart => exact ⟨0, by omega, rfl, hide (fun j hj => by omega), Below.refl _ _⟩
  case round =>
    obtain ⟨k, hk, rfl, hb, hB⟩ := hrel
    have hsz := hB.size
    by_cases hlt : k < 16
    · have hki : (k : Int) < 16 := by omega
      go_wp2_with fail
      refine (words_in k hlt _ (hL.out.ext hB)).mono ?_
      rintro e w1 ⟨rfl, hE⟩
      have hB' := hB.trans (hE.mono hsz)
      have heq := @eq_lists (wordsB k) s
      by_cases hw : wordsB k = s
      · have hg := gua_at hlt hw hb.out
        have hn : guaN s = k := by unfold guaN; rw [hg]
        have he : guaE s = 0 := by unfold guaE; rw [hg]
        rw [decide_eq_true hw] at heq
        generalize wordsB k = t at *
        clear hb hg
        replace hw := hide hw
        replace hn := hide hn
        replace he := hide he
        go_wp2
        go_ret2
        exact ⟨by rw [hn.out, he.out]; rfl, hB'⟩
      · rw [decide_eq_false hw] at heq
        have hb' : Hid (∀ j, j < k + 1 → wordsB j ≠ s) := hide (fun j hj => by
          by_cases h : j = k
          · rw [h]; exact hw
          · exact hb.out j (by omega))
        generalize wordsB k = t at *
        clear hb
        replace hw := hide hw
        go_wp2
        refine ⟨?_, ?_⟩
        · first
            | exact ⟨k + 1, by omega, by go_num, hb', hB'⟩
            | ((repeat apply Exists.intro); exact ⟨⟨k + 1, by omega, by go_num, hb', hB'⟩, rfl⟩)
        · first | (simp [intOf, lenV]; omega) | (simp [intOf]; omega) | (simp [intOf]; done)
    · obtain rfl : k = 16 := by omega
      have hg := gua_none hb.out
      have hn : guaN s = 0 := by unfold guaN; rw [hg]
      have he : guaE s = 190 := by unfold guaE; rw [hg]
      clear hb hg
      replace hn := hide hn
      replace he := hide he
      go_wp2
      go_ret2
      exact ⟨by rw [hn.out, he.out]; rfl, hB⟩

def allL (xs : List Int) : Bool := xs.all lvl
def chk2 (xs ys : List Int) : Int := if allL xs = true ∧ allL ys = true then 0 else 190
theorem all_take {xs : List Int} {j : Nat} {p : Int} (h : ∀ x ∈ xs.take j, lvl x = true) (hp : xs[j]? = some p) (hl : lvl p = true) : ∀ x ∈ xs.take (j + 1), lvl x = true := by
  intro x hx
  rw [List.take_add_one, hp] at hx
  rcases List.mem_append.1 hx with h1 | h1
  · exact h x h1
  · simp at h1
    rw [h1]
    exact hl
theorem all_full {xs : List Int} (h : ∀ x ∈ xs.take xs.length, lvl x = true) : allL xs = true := by
  rw [List.take_length] at h
  unfold allL
  rw [List.all_eq_true]
  exact h
theorem not_all {xs : List Int} {j : Nat} {p : Int} (hp : xs[j]? = some p) (hl : lvl p = false) : allL xs = false := by
  unfold allL
  rw [List.all_eq_false]
  exact ⟨p, List.mem_of_getElem? hp, by rw [hl]; decide⟩
set_option maxRecDepth 100000 in
set_option maxHeartbeats 4000000 in
theorem checks_any (b : Nat) (A1 A2 : Option Addr) (n1 c1 n2 c2 : Nat) (xs ys : List Int) (w : World) (hc1 : w.cell? ⟨b, 0, none⟩ = some (.slice A1 n1 c1)) (hc2 : w.cell? ⟨b, 1, none⟩ = some (.slice A2 n2 c2)) (hb : b < w.heap.size)
    (h1 : Rd intE w.heap.size w A1 xs) (h2 : Rd intE w.heap.size w A2 ys) (hn1 : n1 = xs.length) (hn2 : n2 = ys.length) (hl1 : n1 ≤ 1000000) (hl2 : n2 ≤ 1000000) :
    Calls Tryd.prog 40 #[.slice (some ⟨b, 0, none⟩) 2 2] w fun e w' => e = .returned (.int .i64 (chk2 xs ys)) ∧ w' = w := by
  replace h1 := hide h1
  replace h2 := hide h2
  replace hn1 := hide hn1
  replace hn2 := hide hn2
  go_enter Tryd.func40, Tryd.ntmps40
  go_wp2
  go_step3
  go_wp2
  go_step3
  go_wp2
  go_loopw [3, 10] (fun e i wr => ∃ k : Nat, k ≤ 2 ∧ i = .int .i64 k ∧ e = .int .i64 0 ∧ Hid (0 < k → allL xs = true) ∧ Hid (1 < k → allL ys = true) ∧ wr = w) (fun _ i _ => 2 - (intOf i).toNat)
  case atStart => exact ⟨0, by omega, rfl, rfl, hide (fun h => by omega), hide (fun h => by omega), rfl⟩
  case round =>
    obtain ⟨k, hk, rfl, rfl, ha, hbb, rfl⟩ := hrel
    by_cases hlt : k < 2
    · by_cases hk0 : k = 0
      · subst hk0
        go_wp2
        go_loopw [3, 16] (fun e i wx => ∃ j : Nat, j ≤ n1 ∧ i = .int .i64 j ∧ e = .int .i64 0 ∧ Hid (∀ x ∈ xs.take j, lvl x = true) ∧ wx = wr) (fun _ i _ => n1 - (intOf i).toNat)
        case atStart => exact ⟨0, Nat.zero_le _, rfl, rfl, hide (by simp), rfl⟩
        case round =>
          obtain ⟨j, hj, rfl, rfl, hall, rfl⟩ := hrel
          by_cases hlj : j < n1
          · obtain ⟨bb, off, rfl, hra⟩ := h1.out.at_ (i := j) (by rw [← hn1.out]; exact hlj)
            have hb1 := hra.1
            obtain ⟨p, hp⟩ := get_some (xs := xs) (i := j) (by rw [← hn1.out]; exact hlj)
            have hp1 := hra.int hp
            cases hlv : lvl p with
            | true =>
              have hch := chk_in hlv
              have hall' := hide (all_take hall.out hp hlv)
              replace hp := hide hp
              replace hlv := hide hlv
              replace hra := hide hra
              replace hch := hide hch
              go_wp2_with fail
              refine (check_any p _).mono ?_
              rintro e w1 ⟨rfl, rfl⟩
              rw [hch.out]
              go_wp2
              refine ⟨?_, ?_⟩
              · first
                  | exact ⟨j + 1, by omega, by go_num, rfl, hall', trivial⟩
                  | ((repeat apply Exists.intro); exact ⟨⟨j + 1, by omega, by go_num, rfl, hall', trivial⟩, rfl⟩)
              · first | (simp [intOf, lenV]; omega) | (simp [intOf]; omega) | (simp [intOf]; done)
            | false =>
              have hch := chk_out hlv
              have hna := not_all hp hlv
              have hfin : chk2 xs ys = 190 := by unfold chk2; rw [if_neg (by simp [hna])]
              replace hp := hide hp
              replace hlv := hide hlv
              replace hra := hide hra
              replace hch := hide hch
              replace hna := hide hna
              replace hfin := hide hfin
              go_wp2_with fail
              refine (check_any p _).mono ?_
              rintro e w1 ⟨rfl, rfl⟩
              rw [hch.out]
              go_wp2
              rw [Exit.noGoto_ret]
              go_ret
              exact ⟨by rw [hfin.out]; rfl, rfl⟩
          · obtain hjn : j = n1 := by omega
            have hfull : allL xs = true := all_full (by rw [← hn1.out, ← hjn]; exact hall.out)
            replace hfull := hide hfull
            subst hjn
            go_wp2
            refine ⟨?_, ?_⟩
            · first
                | exact ⟨1, by omega, by go_num, rfl, hide (fun _ => hfull.out), hide (fun h => by omega), trivial⟩
                | ((repeat apply Exists.intro); exact ⟨⟨1, by omega, by go_num, rfl, hide (fun _ => hfull.out), hide (fun h => by omega), trivial⟩, rfl⟩)
            · first | (simp [intOf, lenV]; omega) | (simp [intOf]; omega) | (simp [intOf]; done)
      · obtain rfl : k = 1 := by omega
        have hxs := hide (ha.out (by omega))
        go_wp2
        go_loopw [3, 16] (fun e i wx => ∃ j : Nat, j ≤ n2 ∧ i = .int .i64 j ∧ e = .int .i64 0 ∧ Hid (∀ x ∈ ys.take j, lvl x = true) ∧ wx = wr) (fun _ i _ => n2 - (intOf i).toNat)
        case atStart => exact ⟨0, Nat.zero_le _, rfl, rfl, hide (by simp), rfl⟩
        case round =>
          obtain ⟨j, hj, rfl, rfl, hall, rfl⟩ := hrel
          by_cases hlj : j < n2
          · obtain ⟨bb, off, rfl, hra⟩ := h2.out.at_ (i := j) (by rw [← hn2.out]; exact hlj)
            have hb1 := hra.1
            obtain ⟨p, hp⟩ := get_some (xs := ys) (i := j) (by rw [← hn2.out]; exact hlj)
            have hp1 := hra.int hp
            cases hlv : lvl p with
            | true =>
              have hch := chk_in hlv
              have hall' := hide (all_take hall.out hp hlv)
              replace hp := hide hp
              replace hlv := hide hlv
              replace hra := hide hra
              replace hch := hide hch
              go_wp2_with fail
              refine (check_any p _).mono ?_
              rintro e w1 ⟨rfl, rfl⟩
              rw [hch.out]
              go_wp2
              refine ⟨?_, ?_⟩
              · first
                  | exact ⟨j + 1, by omega, by go_num, rfl, hall', trivial⟩
                  | ((repeat apply Exists.intro); exact ⟨⟨j + 1, by omega, by go_num, rfl, hall', trivial⟩, rfl⟩)
              · first | (simp [intOf, lenV]; omega) | (simp [intOf]; omega) | (simp [intOf]; done)
            | false =>
              have hch := chk_out hlv
              have hna := not_all hp hlv
              have hfin : chk2 xs ys = 190 := by unfold chk2; rw [if_neg (by simp [hna])]
              replace hp := hide hp
              replace hlv := hide hlv
              replace hra := hide hra
              replace hch := hide hch
              replace hna := hide hna
              replace hfin := hide hfin
              go_wp2_with fail
              refine (check_any p _).mono ?_
              rintro e w1 ⟨rfl, rfl⟩
              rw [hch.out]
              go_wp2
              rw [Exit.noGoto_ret]
              go_ret
              exact ⟨by rw [hfin.out]; rfl, rfl⟩
          · obtain hjn : j = n2 := by omega
            have hfull : allL ys = true := all_full (by rw [← hn2.out, ← hjn]; exact hall.out)
            replace hfull := hide hfull
            subst hjn
            go_wp2
            refine ⟨?_, ?_⟩
            · first
                | exact ⟨2, by omega, by go_num, rfl, hide (fun _ => hxs.out), hide (fun _ => hfull.out), trivial⟩
                | ((repeat apply Exists.intro); exact ⟨⟨2, by omega, by go_num, rfl, hide (fun _ => hxs.out), hide (fun _ => hfull.out), trivial⟩, rfl⟩)
            · first | (simp [intOf, lenV]; omega) | (simp [intOf]; omega) | (simp [intOf]; done)
    · obtain rfl : k = 2 := by omega
      have hfin : chk2 xs ys = 0 := by unfold chk2; rw [if_pos ⟨ha.out (by omega), hbb.out (by omega)⟩]
      replace hfin := hide hfin
      go_wp2
      rw [Exit.noGoto_ret]
      go_ret
      exact ⟨by rw [hfin.out]; rfl, rfl⟩

theorem tyInt : Ty Tryd.prog intE 22 3 8 := ty_of (z := .int .i64 0) (sz := 1) (by kernel_rfl) (by kernel_rfl) rfl rfl (by decide)
/-- what a row of two becomes, place by place -/
def two (D : Int → Int → Int) : List Int → List Int → List Int
  | x :: xs, y :: ys => D x y :: two D xs ys
  | _, _ => []
theorem two_length (D : Int → Int → Int) : ∀ xs ys : List Int, xs.length = ys.length → (two D xs ys).length = xs.length
  | [], [], _ => rfl
  | x :: xs, y :: ys, h => by simp [two, two_length D xs ys (by simpa using h)]
theorem two_take (D : Int → Int → Int) : ∀ (xs ys : List Int) (k : Nat) {x y : Int}, xs[k]? = some x → ys[k]? = some y → two D (xs.take (k + 1)) (ys.take (k + 1)) = two D (xs.take k) (ys.take k) ++ [D x y]
  | [], _, _, _, _, h, _ => by simp at h
  | _ :: _, [], _, _, _, _, h => by simp at h
  | a :: xs, b :: ys, 0, x, y, h1, h2 => by
    simp at h1 h2
    subst h1 h2
    simp [two]
  | a :: xs, b :: ys, k + 1, x, y, h1, h2 => by
    have := two_take D xs ys k (x := x) (y := y) (by simpa using h1) (by simpa using h2)
    simp only [List.take_succ_cons, two, List.cons_append]
    rw [this]
theorem chk2_or (xs ys : List Int) : chk2 xs ys = 0 ∨ chk2 xs ys = 190 := by unfold chk2; split <;> simp
def eachE (xs ys : List Int) : Int := if chk2 xs ys = 0 then (if xs.length = ys.length then 0 else 2) else 190
def eachL (D : Int → Int → Int) (xs ys : List Int) : List Int := if chk2 xs ys = 0 ∧ xs.length = ys.length then two D xs ys else []
set_option maxRecDepth 100000 in
set_option maxHeartbeats 4000000 in
theorem each_any (f : FuncId) (D : Int → Int → Int) (hf : ∀ (x y : Int) (w : World), Calls Tryd.prog f #[.int .i64 x, .int .i64 y] w fun e w' => e = .returned (.int .i64 (D x y)) ∧ w' = w)
    (henter : ∀ (args : Array Value) (w : World), (callFunc f args).run Tryd.prog w = .ok (.enter f args) w)
    (A1 A2 : Option Addr) (n1 c1 n2 c2 : Nat) (xs ys : List Int) (w : World) (h1 : Rd intE w.heap.size w A1 xs) (h2 : Rd intE w.heap.size w A2 ys) (hn1 : n1 = xs.length) (hn2 : n2 = ys.length) (hl1 : n1 ≤ 1000000) (hl2 : n2 ≤ 1000000) :
    Calls Tryd.prog 33 #[.func (.func f) #[] #[], .slice A1 n1 c1, .slice A2 n2 c2] w fun e w' => ∃ v, e = .returned (.tuple #[v, .int .i64 (eachE xs ys)]) ∧ Own intE 3 w.heap.size w' v (eachL D xs ys) ∧ Ext w w' := by
  replace hn1 := hide hn1
  replace hn2 := hide hn2
  obtain ⟨wa, hwa⟩ : ∃ wa, wa = w.alloc (.cells #[.slice A1 n1 c1, .slice A2 n2 c2] 22) := ⟨_, rfl⟩
  have hEa : Ext w wa := by rw [hwa]; exact (Below.refl _ _).alloc (Nat.le_refl _) _
  have hC := checks_any w.heap.size A1 A2 n1 c1 n2 c2 xs ys wa (by rw [hwa]; simp) (by rw [hwa]; simp) (by rw [hwa]; simp) (h1.ext hEa) (h2.ext hEa) hn1.out hn2.out hl1 hl2
  rw [hwa] at hC
  replace hC := hide hC
  have r1 := hide (h1.ext hEa)
  have r2 := hide (h2.ext hEa)
  replace h1 := hide h1
  replace h2 := hide h2
  replace hf := hide hf
  replace hwa := hide hwa
  go_enter Tryd.func33, Tryd.ntmps33
  go_wp2_with fail
  refine hC.out.mono ?_
  rintro e w1 ⟨rfl, hw1⟩
  rw [← hwa.out] at hw1
  subst hw1
  clear hC
  rcases chk2_or xs ys with hch | hch
  · rw [hch]
    by_cases hnm : n1 = n2
    · subst hnm
      have hlen : xs.length = ys.length := hn1.out.symm.trans hn2.out
      have hE : eachE xs ys = 0 := by unfold eachE; rw [if_pos hch, if_pos hlen]
      have hLl : eachL D xs ys = two D xs ys := by unfold eachL; rw [if_pos ⟨hch, hlen⟩]
      have hsa := hEa.size
      replace hch := hide hch
      replace hE := hide hE
      replace hLl := hide hLl
      replace hlen := hide hlen
      obtain ⟨wz, rfl⟩ : ∃ wz : World, wz = w1 := ⟨_, rfl⟩
      go_wp2
      go_loopw [8, 25] (fun o i wr => ∃ k : Nat, k ≤ n1 ∧ i = .int .i64 k ∧ Hid (Own intE 3 wz.heap.size wr o (two D (xs.take k) (ys.take k))) ∧ Ext wz wr) (fun _ i _ => n1 - (intOf i).toNat)
      case atStart => exact ⟨0, Nat.zero_le _, rfl, hide Own.nil_, Below.refl _ _⟩
      case round =>
        obtain ⟨k, hk, rfl, hO, hB⟩ := hrel
        obtain ⟨hcc, hff⟩ := bcell hB
        have hsz := hB.size
        by_cases hlt : k < n1
        · obtain ⟨b1, o1, rfl, ra1⟩ := r1.out.at_ (i := k) (by rw [← hn1.out]; exact hlt)
          obtain ⟨b2, o2, rfl, ra2⟩ := r2.out.at_ (i := k) (by rw [← hn2.out]; exact hlt)
          have hb1 := ra1.1
          have hb2 := ra2.1
          obtain ⟨p1, hp1⟩ := get_some (xs := xs) (i := k) (by rw [← hn1.out]; exact hlt)
          obtain ⟨p2, hp2⟩ := get_some (xs := ys) (i := k) (by rw [← hn2.out]; exact hlt)
          have hx1 := ra1.int hp1
          have hx2 := ra2.int hp2
          have htk := two_take D xs ys k hp1 hp2
          have hll : (two D (xs.take k) (ys.take k)).length ≤ 1000000 := by
            rw [two_length D _ _ (by rw [List.length_take, List.length_take, hlen.out]), List.length_take]
            omega
          replace hp1 := hide hp1
          replace hp2 := hide hp2
          replace ra1 := hide ra1
          replace ra2 := hide ra2
          replace htk := hide htk
          replace hll := hide hll
          have hsw : w.heap.size ≤ wr.heap.size := Nat.le_trans hsa hsz
          obtain ⟨A, c, rfl, -, -, -⟩ := hO.out.rd
          have hon := own_new (base := 0) (e := 3) intE wr (D p1 p2) wr.heap.size rfl (Nat.zero_le _)
          obtain ⟨A4, c4, hv1, hr4, -, -⟩ := hon.rd
          injection hv1 with hv2 hv3 hv4
          subst hv2
          clear hon hv3 hv4
          replace hr4 := hide hr4
          have hO1 := hide (hO.out.alloc (.cells (intE.cs (D p1 p2)).toArray 3))
          obtain ⟨q, hq⟩ : ∃ q, q = D p1 p2 := ⟨_, rfl⟩
          have hfq := hf.out p1 p2 wr
          rw [← hq] at hfq hr4 hO1
          replace hfq := hide hfq
          replace hq := hide hq
          go_wp2_with fail
          refine hfq.out.mono ?_
          rintro e w1 ⟨rfl, rfl⟩
          go_wp2_with (at_builtin; refine wpList_app tyInt rfl (.tmp 30) (.tmp 38) rfl rfl hO1.out rfl hr4.out rfl (by have := hll.out; simp; omega) (by simp; omega) ?_)
          intro v' w' hown' hg hne' hnil
          have hB' : Ext wz w' := Own.below hO1.out (hB.alloc hsz _) hg (by simp; omega)
          have hown2 : Hid (Own intE 3 wz.heap.size w' v' (two D (xs.take (k + 1)) (ys.take (k + 1)))) := hide (by rw [htk.out, ← hq.out]; exact hown')
          clear hown' hne' hnil hg hO1 hr4 hfq
          go_wp2
          refine ⟨?_, ?_⟩
          · first
              | exact ⟨k + 1, by omega, by go_num, hown2, hB'⟩
              | ((repeat apply Exists.intro); exact ⟨⟨k + 1, by omega, by go_num, hown2, hB'⟩, rfl⟩)
          · first | (simp [intOf, lenV]; omega) | (simp [intOf]; omega) | (simp [intOf]; done)
        · obtain rfl : k = n1 := by omega
          have ht1 : xs.take k = xs := by rw [hn1.out]; exact List.take_length
          have ht2 : ys.take k = ys := by rw [hn2.out]; exact List.take_length
          rw [ht1, ht2] at hO
          clear ht1 ht2
          go_wp2
          go_ret2
          exact ⟨_, by rw [hE.out]; rfl, by rw [hLl.out]; exact hO.out.base_le hsa, hEa.trans (hB.mono hsa)⟩
    · have hE : eachE xs ys = 2 := by unfold eachE; rw [if_pos hch, if_neg (by rw [← hn1.out, ← hn2.out]; exact hnm)]
      have hLl : eachL D xs ys = [] := by unfold eachL; rw [if_neg (fun h => hnm (by rw [hn1.out, hn2.out]; exact h.2))]
      have hnm' : ((n1 : Int) == (n2 : Int)) = false := by rw [beq_eq_false_iff_ne]; omega
      replace hch := hide hch
      replace hE := hide hE
      replace hLl := hide hLl
      go_wp2
      go_ret2
      exact ⟨_, by rw [hE.out]; rfl, by rw [hLl.out]; exact Own.nil_, hEa⟩
  · have hE : eachE xs ys = 190 := by unfold eachE; rw [if_neg (by rw [hch]; decide)]
    have hLl : eachL D xs ys = [] := by unfold eachL; rw [if_neg (by rw [hch]; simp)]
    rw [hch]
    replace hch := hide hch
    replace hE := hide hE
    replace hLl := hide hLl
    go_wp2
    go_ret2
    exact ⟨_, by rw [hE.out]; rfl, by rw [hLl.out]; exact Own.nil_, hEa⟩
end Go.Proofs.YtbmcbbcgambflaaDoor
