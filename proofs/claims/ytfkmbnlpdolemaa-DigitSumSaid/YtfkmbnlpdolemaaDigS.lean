/- DigitSum: the sum of all hangs on no order. -/
import Derived.Test.YtfkmbnlpdolemaaDigO
import Derived.Test.YtfkmbnlpdolemaaOwn
namespace Go.Proofs.Ytfkmbnlpdolemaa
open Go.RowKit Go.Lib

theorem tyI64 : Ty Try.prog intE 22 2 8 := ty_of (z := .int .i64 0) (sz := 1) (by kernel_rfl) (by kernel_rfl) rfl rfl (by decide)
theorem own_empty {α : Type} {E : El α} (w : World) (e : TypeId) {base : Nat} (hb : base ≤ w.heap.size) : Own E e base (w.alloc (.cells #[] e)) (.slice (some ⟨w.heap.size, 0, none⟩) 0 0) [] :=
  World.ownsRow_made w #[] 0 hb (Nat.zero_le _) (by simp)
/-- the place that a number turns to -/
theorem turn_at (a : Int) (m : Nat) (hm : 0 < m) (h30 : m ≤ 30) : ∃ k : Nat, k < m ∧ IntKind.i64.wrap ((IntKind.u64.wrap a).tmod (m : Int)) = (k : Int) := by
  rw [IntKind.wrap_u64, Int.tmod_eq_emod_of_nonneg (Int.emod_nonneg _ (by omega))]
  have h1 := Int.emod_nonneg (a % 18446744073709551616) (b := (m : Int)) (by omega)
  have h2 := Int.emod_lt_of_pos (a % 18446744073709551616) (b := (m : Int)) (by omega)
  generalize a % 18446744073709551616 % (m : Int) = q at *
  refine ⟨q.toNat, by omega, ?_⟩
  rw [IntWalk.i64_in _ (by omega)]
  omega

theorem turned_sum (k : Nat) (l : List Int) : ([] ++ l.drop k ++ l.take k).sum = l.sum := by
  have := congrArg List.sum (List.take_append_drop k l)
  rw [List.sum_append] at this
  rw [List.nil_append, List.sum_append]
  omega
set_option maxRecDepth 100000 in
set_option maxHeartbeats 4000000 in
theorem digitSum_any (A : Option Addr) (n c : Nat) (xs : List Int) (turn : Int) (w : World) (hn : n = xs.length) (h : Rd intE w.heap.size w A xs) (hc : n ≤ c) (hx : ∀ x ∈ xs, in64 x) :
    Calls Try.prog 7 #[.slice A n c, .int .i64 turn] w fun e w' => e = .returned (.bool true) ∧ Ext w w' := by
  replace hn := hide hn
  replace h := hide h
  go_enter Try.func7, Try.ntmps7
  go_wp2_with fail
  refine (wakes_any _).mono ?_
  rintro e w1 ⟨rfl, hE1⟩
  obtain ⟨as_, has⟩ : ∃ l, l = xs.take 30 := ⟨_, rfl⟩
  have hax : ∀ x ∈ as_, in64 x := fun x hxm => hx x (List.mem_of_mem_take (by rw [← has]; exact hxm))
  have hm30 : as_.length ≤ 30 := by rw [has, List.length_take]; omega
  have hmin : min n 30 = as_.length := by rw [has, List.length_take, ← hn.out, Nat.min_comm]
  have hr1 := (h.out.ext hE1).take 30
  rw [← has] at hr1
  clear has hx
  replace hr1 := hide (hr1.ext (w' := w1.alloc (.cells #[] 2)) ((Below.refl _ _).alloc (Nat.le_refl _) _))
  have ho0 := hide (own_empty (E := intE) (base := w1.heap.size) w1 2 (Nat.le_refl _))
  obtain ⟨m, hm⟩ : ∃ m, m = as_.length := ⟨_, rfl⟩
  rw [← hm] at hm30 hmin
  replace hm := hide hm
  by_cases hn30 : n ≤ 30
  · obtain rfl : m = n := by omega
    clear hmin
    go_wp2_with (at_builtin; refine wpList_app tyI64 rfl (.tmp 14) (.tmp 19) rfl rfl ho0.out rfl hr1.out hm.out (by rw [← hm.out]; simp <;> omega) (by simp) ?_)
    intro v2 w2 ho2 hg2 _ _
    have hE2 : Ext w1 w2 := Own.below ho0.out ((Below.refl _ _).alloc (Nat.le_refl _) _) hg2 (by simp)
    obtain ⟨A2, c2, rfl, rd2, hc2, -⟩ := ho2.rd
    try simp only [List.nil_append] at ho2 rd2 hc2 ⊢
    obtain ⟨q, hq⟩ : ∃ q, q = as_.length := ⟨_, rfl⟩
    rw [← hq] at hc2 ⊢
    have hq30 : q ≤ 30 := by have := hm.out; omega
    have hW2 := hE1.trans (hE2.mono hE1.size)
    clear ho0 hg2 hr1 hm h hn hc hn30 hm30 hE1 hE2 ho2
    replace hq := hide hq
    replace rd2 := hide rd2
    replace hax := hide hax
    go_wp2_with fail
    refine (sum_any A2 q c2 as_ _ hq.out rd2.out hax.out (by omega)).mono ?_
    rintro e w3 ⟨rfl, hE3⟩
    have hW3 := hW2.trans (hE3.mono hW2.size)
    replace rd2 := hide (rd2.out.ext hE3)
    obtain ⟨fs, hfs⟩ : ∃ f, f = fit as_.sum := ⟨_, rfl⟩
    rw [← hfs]
    obtain ⟨f1, f2⟩ := fs
    replace hfs := hide hfs
    clear hE3 hW2
    obtain ⟨er, her⟩ : ∃ er, er = errS f2 := ⟨_, rfl⟩
    have her0 : (er == 0) = f2 := by rw [her]; cases f2 <;> rfl
    rw [show ((f1, f2) : Int × Bool).2 = f2 from rfl, show ((f1, f2) : Int × Bool).1 = f1 from rfl, ← her]
    replace her := hide her
    by_cases hq0 : q = 0
    · subst hq0
      have hnil : as_ = [] := List.eq_nil_of_length_eq_zero hq.out.symm
      have hff : ((f1, f2) : Int × Bool) = (0, true) := by rw [hfs.out, hnil]; decide
      injection hff with e1 e2
      subst e1 e2
      go_wp2
      go_ret
      exact ⟨rfl, hW3⟩
    · replace hq0 : 0 < q := by omega
      by_cases hq2 : q = 2
      · subst hq2
        obtain ⟨x, y, hxy2⟩ : ∃ x y, as_ = [x, y] := by
          match as_, hq.out with
          | [x, y], _ => exact ⟨x, y, rfl⟩
        obtain ⟨b, off, rfl, hra⟩ := rd2.out.at_ (i := 0) (by rw [hxy2]; simp)
        have hx0 := hra.int (i := 0) (p := x) (by rw [hxy2]; rfl)
        have hx1 := hra.int (i := 1) (p := y) (by rw [hxy2]; rfl)
        rw [Nat.add_zero] at hx0
        have hb1 := hra.1
        have hxi : in64 x := hax.out x (by rw [hxy2]; simp)
        have hyi : in64 y := hax.out y (by rw [hxy2]; simp)
        replace hxi := hide hxi
        replace hyi := hide hyi
        replace hra := hide hra
        have hxy : (f1, f2) = fit (x + y) := by rw [hfs.out, hxy2]; congr 1; simp
        clear hxy2
        replace hxy := hide hxy
        go_wp2_with fail
        refine wp_region_mix (fun W => Ext w3 W) [(0, true), (1, true), (2, true), (3, true), (4, true), (5, true), (6, false), (7, true), (8, true), (9, true), (10, true), (11, true)] (by kernel_rfl) (by kernel_rfl) (by kernel_rfl) (by kernel_rfl) (fun _ _ d _ _ h => by cases d <;> exact h) ?_ ?_
        · exact Ext.drew1 w3
        iterate 6
          apply mix_q rfl rfl
          · intro W hW
            have hcW := (bcell hW).1
            go_simp
            try exact rfl
          simp only [Act.put, List.setIfInBounds_toArray, List.set_cons_zero, List.set_cons_succ]
        refine mix_w rfl rfl (fun K hK => ?_)
        go_simp
        refine (sum2_any x y hxi.out hyi.out _).mono ?_
        rintro e wA ⟨rfl, hEA⟩
        rw [← hxy.out, show ((f1, f2) : Int × Bool).2 = f2 from rfl, show ((f1, f2) : Int × Bool).1 = f1 from rfl]
        have hEA' : Ext w3 wA := (Ext.drew1 w3).trans hEA
        refine hK _ _ hEA' ?_
        clear hK K
        try simp only [Act.put, List.setIfInBounds_toArray, List.set_cons_zero, List.set_cons_succ]
        iterate 5
          apply mix_q rfl rfl
          · intro W hW
            have hcW := (bcell hW).1
            go_simp
            try exact rfl
          simp only [Act.put, List.setIfInBounds_toArray, List.set_cons_zero, List.set_cons_succ]
        refine mix_nil ?_
        replace hW3 := hW3.trans (hEA'.mono hW3.size)
        replace rd2 := hide (rd2.out.ext hEA')
        clear hx0 hx1 hb1 hra hxy hxi hyi hEA hEA'
        obtain ⟨w3, rfl⟩ : ∃ wB : World, wB = wA := ⟨_, rfl⟩
        obtain ⟨A3, hA3⟩ : ∃ A3, A3 = some (⟨b, off, none⟩ : Addr) := ⟨_, rfl⟩
        rw [← hA3] at rd2 ⊢
        clear hA3
        obtain ⟨k, hkm, hkk⟩ := turn_at turn 2 hq0 hq30
        have hkc : k ≤ c2 := by omega
        have hkq : k ≤ 2 := by omega
        have hkqi : (k : Int) ≤ 2 := by omega
        have hkk2 : IntKind.i64.wrap ((IntKind.u64.wrap turn).tmod 2) = (k : Int) := hkk
        go_wp2_with fail
        clear hkk hkk2
        refine wp_region_mix (fun _ => True) [(1, true), (2, true), (3, true), (5, true), (6, true), (7, true), (0, false), (4, false), (8, false), (9, false), (10, true), (11, true), (12, true), (13, true), (14, true)] (by kernel_rfl) (by kernel_rfl) (by kernel_rfl) (by kernel_rfl) (fun _ _ d _ _ h => by cases d <;> exact h) trivial ?_
        iterate 6
          apply mix_q rfl rfl
          · intro W _
            go_simp
            try exact rfl
          simp only [Act.put, List.setIfInBounds_toArray, List.set_cons_zero, List.set_cons_succ]
        iterate 1
          refine mix_w rfl rfl (fun K hK => ?_)
          go_simp
          refine hK _ _ trivial ?_
          clear hK K
          try simp only [Act.put, List.setIfInBounds_toArray, List.set_cons_zero, List.set_cons_succ]
        have rdc := ((rd2.out.drew).ext (w := w3.drew) ((Below.refl _ _).alloc (Nat.le_refl _) (.cells #[] 2))).cut (k := k) (c := c2) (by rw [← hq.out]; exact hc2)
        rw [show k * intE.sz = k from Nat.mul_one k] at rdc
        refine mix_w rfl rfl (fun K hK => ?_)
        refine wp_app tyI64 _ _ rfl rfl (own_empty (E := intE) (base := w3.heap.size) w3.drew 2 (Nat.le_refl _)) rfl rdc (by rw [List.length_drop, ← hq.out]) (by simp; rw [← hq.out]; omega) (by simp) ?_
        intro v4 w4 ho4 hg4 _ _
        have hE4 : Ext w3 w4 := (own_empty (E := intE) (base := w3.heap.size) w3.drew 2 (Nat.le_refl _)).below ((Below.refl _ _).drew.alloc (Nat.le_refl _) _) hg4 (by simp)
        obtain ⟨A4, c4, rfl, -, -, -⟩ := ho4.rd
        obtain ⟨p4, hp4⟩ : ∃ p, p = ([] ++ as_.drop k).length := ⟨_, rfl⟩
        rw [← hp4] at ho4 ⊢
        clear hp4
        refine hK _ _ trivial ?_
        clear hK K
        try simp only [Act.put, List.setIfInBounds_toArray, List.set_cons_zero, List.set_cons_succ]
        have rd4 := rd2.out.ext hE4
        refine mix_w rfl rfl (fun K hK => ?_)
        refine wp_app tyI64 _ _ rfl rfl ho4 rfl (rd4.take k) (by rw [List.length_take, ← hq.out]; omega) (by simp; rw [← hq.out]; omega) hE4.size ?_
        intro v5 w5 ho5 hg5 _ _
        have hE5 : Ext w3 w5 := ho4.below hE4 hg5 hE4.size
        obtain ⟨A5, c5, rfl, rd5, -, -⟩ := ho5.rd
        have hpl : ([] ++ as_.drop k ++ as_.take k).length ≤ 1000000 := by have := hq.out; simp; omega
        have hsum := turned_sum k as_
        have hall : ∀ x ∈ [] ++ as_.drop k ++ as_.take k, in64 x := by
          intro x hxm
          rw [List.nil_append] at hxm
          rcases List.mem_append.1 hxm with h | h
          · exact hax.out x (List.mem_of_mem_drop h)
          · exact hax.out x (List.mem_of_mem_take h)
        generalize [] ++ as_.drop k ++ as_.take k = ys at *
        obtain ⟨p5, hp5⟩ : ∃ p, p = ys.length := ⟨_, rfl⟩
        rw [← hp5] at hpl ⊢
        clear ho5 ho4 rd4 hg4 hg5 rdc
        replace hp5 := hide hp5
        replace rd5 := hide rd5
        replace hall := hide hall
        replace hsum := hide hsum
        refine hK _ _ trivial ?_
        clear hK K
        try simp only [Act.put, List.setIfInBounds_toArray, List.set_cons_zero, List.set_cons_succ]
        refine mix_w rfl rfl (fun K hK => ?_)
        go_simp
        refine (sum_any A5 _ c5 _ _ hp5.out rd5.out hall.out hpl).mono ?_
        rintro e w6 ⟨rfl, hE6⟩
        rw [hsum.out]
        rw [← hfs.out]
        rw [show ((f1, f2) : Int × Bool).2 = f2 from rfl, show ((f1, f2) : Int × Bool).1 = f1 from rfl, ← her.out]
        refine hK _ _ trivial ?_
        clear hK K
        try simp only [Act.put, List.setIfInBounds_toArray, List.set_cons_zero, List.set_cons_succ]
        iterate 5
          apply mix_q rfl rfl
          · intro W _
            go_simp
            try exact rfl
          simp only [Act.put, List.setIfInBounds_toArray, List.set_cons_zero, List.set_cons_succ]
        refine mix_nil ?_
        go_wp2
        go_ret
        exact ⟨rfl, hW3.trans ((hE5.trans (hE6.mono hE5.size)).mono hW3.size)⟩
      · obtain ⟨k, hkm, hkk⟩ := turn_at turn q hq0 hq30
        have hkc : k ≤ c2 := by omega
        have hkq : k ≤ q := by omega
        have hkqi : (k : Int) ≤ (q : Int) := by omega
        have hkk2 : IntKind.i64.wrap ((IntKind.u64.wrap turn).tmod (q : Int)) = (k : Int) := hkk
        go_wp2_with fail
        clear hkk hkk2
        refine wp_region_mix (fun _ => True) [(1, true), (2, true), (3, true), (5, true), (6, true), (7, true), (0, false), (4, false), (8, false), (9, false), (10, true), (11, true), (12, true), (13, true), (14, true)] (by kernel_rfl) (by kernel_rfl) (by kernel_rfl) (by kernel_rfl) (fun _ _ d _ _ h => by cases d <;> exact h) trivial ?_
        iterate 6
          apply mix_q rfl rfl
          · intro W _
            go_simp
            try exact rfl
          simp only [Act.put, List.setIfInBounds_toArray, List.set_cons_zero, List.set_cons_succ]
        iterate 1
          refine mix_w rfl rfl (fun K hK => ?_)
          go_simp
          refine hK _ _ trivial ?_
          clear hK K
          try simp only [Act.put, List.setIfInBounds_toArray, List.set_cons_zero, List.set_cons_succ]
        have rdc := ((rd2.out.drew).ext (w := w3.drew) ((Below.refl _ _).alloc (Nat.le_refl _) (.cells #[] 2))).cut (k := k) (c := c2) (by rw [← hq.out]; exact hc2)
        rw [show k * intE.sz = k from Nat.mul_one k] at rdc
        refine mix_w rfl rfl (fun K hK => ?_)
        refine wp_app tyI64 _ _ rfl rfl (own_empty (E := intE) (base := w3.heap.size) w3.drew 2 (Nat.le_refl _)) rfl rdc (by rw [List.length_drop, ← hq.out]) (by simp; rw [← hq.out]; omega) (by simp) ?_
        intro v4 w4 ho4 hg4 _ _
        have hE4 : Ext w3 w4 := (own_empty (E := intE) (base := w3.heap.size) w3.drew 2 (Nat.le_refl _)).below ((Below.refl _ _).drew.alloc (Nat.le_refl _) _) hg4 (by simp)
        obtain ⟨A4, c4, rfl, -, -, -⟩ := ho4.rd
        obtain ⟨p4, hp4⟩ : ∃ p, p = ([] ++ as_.drop k).length := ⟨_, rfl⟩
        rw [← hp4] at ho4 ⊢
        clear hp4
        refine hK _ _ trivial ?_
        clear hK K
        try simp only [Act.put, List.setIfInBounds_toArray, List.set_cons_zero, List.set_cons_succ]
        have rd4 := rd2.out.ext hE4
        refine mix_w rfl rfl (fun K hK => ?_)
        refine wp_app tyI64 _ _ rfl rfl ho4 rfl (rd4.take k) (by rw [List.length_take, ← hq.out]; omega) (by simp; rw [← hq.out]; omega) hE4.size ?_
        intro v5 w5 ho5 hg5 _ _
        have hE5 : Ext w3 w5 := ho4.below hE4 hg5 hE4.size
        obtain ⟨A5, c5, rfl, rd5, -, -⟩ := ho5.rd
        have hpl : ([] ++ as_.drop k ++ as_.take k).length ≤ 1000000 := by have := hq.out; simp; omega
        have hsum := turned_sum k as_
        have hall : ∀ x ∈ [] ++ as_.drop k ++ as_.take k, in64 x := by
          intro x hxm
          rw [List.nil_append] at hxm
          rcases List.mem_append.1 hxm with h | h
          · exact hax.out x (List.mem_of_mem_drop h)
          · exact hax.out x (List.mem_of_mem_take h)
        generalize [] ++ as_.drop k ++ as_.take k = ys at *
        obtain ⟨p5, hp5⟩ : ∃ p, p = ys.length := ⟨_, rfl⟩
        rw [← hp5] at hpl ⊢
        clear ho5 ho4 rd4 hg4 hg5 rdc
        replace hp5 := hide hp5
        replace rd5 := hide rd5
        replace hall := hide hall
        replace hsum := hide hsum
        refine hK _ _ trivial ?_
        clear hK K
        try simp only [Act.put, List.setIfInBounds_toArray, List.set_cons_zero, List.set_cons_succ]
        refine mix_w rfl rfl (fun K hK => ?_)
        go_simp
        refine (sum_any A5 _ c5 _ _ hp5.out rd5.out hall.out hpl).mono ?_
        rintro e w6 ⟨rfl, hE6⟩
        rw [hsum.out]
        rw [← hfs.out]
        rw [show ((f1, f2) : Int × Bool).2 = f2 from rfl, show ((f1, f2) : Int × Bool).1 = f1 from rfl, ← her.out]
        refine hK _ _ trivial ?_
        clear hK K
        try simp only [Act.put, List.setIfInBounds_toArray, List.set_cons_zero, List.set_cons_succ]
        iterate 5
          apply mix_q rfl rfl
          · intro W _
            go_simp
            try exact rfl
          simp only [Act.put, List.setIfInBounds_toArray, List.set_cons_zero, List.set_cons_succ]
        refine mix_nil ?_
        go_wp2
        go_ret
        exact ⟨rfl, hW3.trans ((hE5.trans (hE6.mono hE5.size)).mono hW3.size)⟩
  · obtain rfl : m = 30 := by omega
    clear hmin
    have hn30' : ¬ (n : Int) ≤ 30 := by omega
    go_wp2_with (at_builtin; refine wpList_app tyI64 rfl (.tmp 14) (.tmp 19) rfl rfl ho0.out rfl hr1.out hm.out (by rw [← hm.out]; simp <;> omega) (by simp) ?_)
    intro v2 w2 ho2 hg2 _ _
    have hE2 : Ext w1 w2 := Own.below ho0.out ((Below.refl _ _).alloc (Nat.le_refl _) _) hg2 (by simp)
    obtain ⟨A2, c2, rfl, rd2, hc2, -⟩ := ho2.rd
    try simp only [List.nil_append] at ho2 rd2 hc2 ⊢
    obtain ⟨q, hq⟩ : ∃ q, q = as_.length := ⟨_, rfl⟩
    rw [← hq] at hc2 ⊢
    have hq30 : q ≤ 30 := by have := hm.out; omega
    have hW2 := hE1.trans (hE2.mono hE1.size)
    clear ho0 hg2 hr1 hm h hn hc hn30 hm30 hE1 hE2 ho2
    replace hq := hide hq
    replace rd2 := hide rd2
    replace hax := hide hax
    go_wp2_with fail
    refine (sum_any A2 q c2 as_ _ hq.out rd2.out hax.out (by omega)).mono ?_
    rintro e w3 ⟨rfl, hE3⟩
    have hW3 := hW2.trans (hE3.mono hW2.size)
    replace rd2 := hide (rd2.out.ext hE3)
    obtain ⟨fs, hfs⟩ : ∃ f, f = fit as_.sum := ⟨_, rfl⟩
    rw [← hfs]
    obtain ⟨f1, f2⟩ := fs
    replace hfs := hide hfs
    clear hE3 hW2
    obtain ⟨er, her⟩ : ∃ er, er = errS f2 := ⟨_, rfl⟩
    have her0 : (er == 0) = f2 := by rw [her]; cases f2 <;> rfl
    rw [show ((f1, f2) : Int × Bool).2 = f2 from rfl, show ((f1, f2) : Int × Bool).1 = f1 from rfl, ← her]
    replace her := hide her
    by_cases hq0 : q = 0
    · subst hq0
      have hnil : as_ = [] := List.eq_nil_of_length_eq_zero hq.out.symm
      have hff : ((f1, f2) : Int × Bool) = (0, true) := by rw [hfs.out, hnil]; decide
      injection hff with e1 e2
      subst e1 e2
      go_wp2
      go_ret
      exact ⟨rfl, hW3⟩
    · replace hq0 : 0 < q := by omega
      by_cases hq2 : q = 2
      · subst hq2
        obtain ⟨x, y, hxy2⟩ : ∃ x y, as_ = [x, y] := by
          match as_, hq.out with
          | [x, y], _ => exact ⟨x, y, rfl⟩
        obtain ⟨b, off, rfl, hra⟩ := rd2.out.at_ (i := 0) (by rw [hxy2]; simp)
        have hx0 := hra.int (i := 0) (p := x) (by rw [hxy2]; rfl)
        have hx1 := hra.int (i := 1) (p := y) (by rw [hxy2]; rfl)
        rw [Nat.add_zero] at hx0
        have hb1 := hra.1
        have hxi : in64 x := hax.out x (by rw [hxy2]; simp)
        have hyi : in64 y := hax.out y (by rw [hxy2]; simp)
        replace hxi := hide hxi
        replace hyi := hide hyi
        replace hra := hide hra
        have hxy : (f1, f2) = fit (x + y) := by rw [hfs.out, hxy2]; congr 1; simp
        clear hxy2
        replace hxy := hide hxy
        go_wp2_with fail
        refine wp_region_mix (fun W => Ext w3 W) [(0, true), (1, true), (2, true), (3, true), (4, true), (5, true), (6, false), (7, true), (8, true), (9, true), (10, true), (11, true)] (by kernel_rfl) (by kernel_rfl) (by kernel_rfl) (by kernel_rfl) (fun _ _ d _ _ h => by cases d <;> exact h) ?_ ?_
        · exact Ext.drew1 w3
        iterate 6
          apply mix_q rfl rfl
          · intro W hW
            have hcW := (bcell hW).1
            go_simp
            try exact rfl
          simp only [Act.put, List.setIfInBounds_toArray, List.set_cons_zero, List.set_cons_succ]
        refine mix_w rfl rfl (fun K hK => ?_)
        go_simp
        refine (sum2_any x y hxi.out hyi.out _).mono ?_
        rintro e wA ⟨rfl, hEA⟩
        rw [← hxy.out, show ((f1, f2) : Int × Bool).2 = f2 from rfl, show ((f1, f2) : Int × Bool).1 = f1 from rfl]
        have hEA' : Ext w3 wA := (Ext.drew1 w3).trans hEA
        refine hK _ _ hEA' ?_
        clear hK K
        try simp only [Act.put, List.setIfInBounds_toArray, List.set_cons_zero, List.set_cons_succ]
        iterate 5
          apply mix_q rfl rfl
          · intro W hW
            have hcW := (bcell hW).1
            go_simp
            try exact rfl
          simp only [Act.put, List.setIfInBounds_toArray, List.set_cons_zero, List.set_cons_succ]
        refine mix_nil ?_
        replace hW3 := hW3.trans (hEA'.mono hW3.size)
        replace rd2 := hide (rd2.out.ext hEA')
        clear hx0 hx1 hb1 hra hxy hxi hyi hEA hEA'
        obtain ⟨w3, rfl⟩ : ∃ wB : World, wB = wA := ⟨_, rfl⟩
        obtain ⟨A3, hA3⟩ : ∃ A3, A3 = some (⟨b, off, none⟩ : Addr) := ⟨_, rfl⟩
        rw [← hA3] at rd2 ⊢
        clear hA3
        obtain ⟨k, hkm, hkk⟩ := turn_at turn 2 hq0 hq30
        have hkc : k ≤ c2 := by omega
        have hkq : k ≤ 2 := by omega
        have hkqi : (k : Int) ≤ 2 := by omega
        have hkk2 : IntKind.i64.wrap ((IntKind.u64.wrap turn).tmod 2) = (k : Int) := hkk
        go_wp2_with fail
        clear hkk hkk2
        refine wp_region_mix (fun _ => True) [(1, true), (2, true), (3, true), (5, true), (6, true), (7, true), (0, false), (4, false), (8, false), (9, false), (10, true), (11, true), (12, true), (13, true), (14, true)] (by kernel_rfl) (by kernel_rfl) (by kernel_rfl) (by kernel_rfl) (fun _ _ d _ _ h => by cases d <;> exact h) trivial ?_
        iterate 6
          apply mix_q rfl rfl
          · intro W _
            go_simp
            try exact rfl
          simp only [Act.put, List.setIfInBounds_toArray, List.set_cons_zero, List.set_cons_succ]
        iterate 1
          refine mix_w rfl rfl (fun K hK => ?_)
          go_simp
          refine hK _ _ trivial ?_
          clear hK K
          try simp only [Act.put, List.setIfInBounds_toArray, List.set_cons_zero, List.set_cons_succ]
        have rdc := ((rd2.out.drew).ext (w := w3.drew) ((Below.refl _ _).alloc (Nat.le_refl _) (.cells #[] 2))).cut (k := k) (c := c2) (by rw [← hq.out]; exact hc2)
        rw [show k * intE.sz = k from Nat.mul_one k] at rdc
        refine mix_w rfl rfl (fun K hK => ?_)
        refine wp_app tyI64 _ _ rfl rfl (own_empty (E := intE) (base := w3.heap.size) w3.drew 2 (Nat.le_refl _)) rfl rdc (by rw [List.length_drop, ← hq.out]) (by simp; rw [← hq.out]; omega) (by simp) ?_
        intro v4 w4 ho4 hg4 _ _
        have hE4 : Ext w3 w4 := (own_empty (E := intE) (base := w3.heap.size) w3.drew 2 (Nat.le_refl _)).below ((Below.refl _ _).drew.alloc (Nat.le_refl _) _) hg4 (by simp)
        obtain ⟨A4, c4, rfl, -, -, -⟩ := ho4.rd
        obtain ⟨p4, hp4⟩ : ∃ p, p = ([] ++ as_.drop k).length := ⟨_, rfl⟩
        rw [← hp4] at ho4 ⊢
        clear hp4
        refine hK _ _ trivial ?_
        clear hK K
        try simp only [Act.put, List.setIfInBounds_toArray, List.set_cons_zero, List.set_cons_succ]
        have rd4 := rd2.out.ext hE4
        refine mix_w rfl rfl (fun K hK => ?_)
        refine wp_app tyI64 _ _ rfl rfl ho4 rfl (rd4.take k) (by rw [List.length_take, ← hq.out]; omega) (by simp; rw [← hq.out]; omega) hE4.size ?_
        intro v5 w5 ho5 hg5 _ _
        have hE5 : Ext w3 w5 := ho4.below hE4 hg5 hE4.size
        obtain ⟨A5, c5, rfl, rd5, -, -⟩ := ho5.rd
        have hpl : ([] ++ as_.drop k ++ as_.take k).length ≤ 1000000 := by have := hq.out; simp; omega
        have hsum := turned_sum k as_
        have hall : ∀ x ∈ [] ++ as_.drop k ++ as_.take k, in64 x := by
          intro x hxm
          rw [List.nil_append] at hxm
          rcases List.mem_append.1 hxm with h | h
          · exact hax.out x (List.mem_of_mem_drop h)
          · exact hax.out x (List.mem_of_mem_take h)
        generalize [] ++ as_.drop k ++ as_.take k = ys at *
        obtain ⟨p5, hp5⟩ : ∃ p, p = ys.length := ⟨_, rfl⟩
        rw [← hp5] at hpl ⊢
        clear ho5 ho4 rd4 hg4 hg5 rdc
        replace hp5 := hide hp5
        replace rd5 := hide rd5
        replace hall := hide hall
        replace hsum := hide hsum
        refine hK _ _ trivial ?_
        clear hK K
        try simp only [Act.put, List.setIfInBounds_toArray, List.set_cons_zero, List.set_cons_succ]
        refine mix_w rfl rfl (fun K hK => ?_)
        go_simp
        refine (sum_any A5 _ c5 _ _ hp5.out rd5.out hall.out hpl).mono ?_
        rintro e w6 ⟨rfl, hE6⟩
        rw [hsum.out]
        rw [← hfs.out]
        rw [show ((f1, f2) : Int × Bool).2 = f2 from rfl, show ((f1, f2) : Int × Bool).1 = f1 from rfl, ← her.out]
        refine hK _ _ trivial ?_
        clear hK K
        try simp only [Act.put, List.setIfInBounds_toArray, List.set_cons_zero, List.set_cons_succ]
        iterate 5
          apply mix_q rfl rfl
          · intro W _
            go_simp
            try exact rfl
          simp only [Act.put, List.setIfInBounds_toArray, List.set_cons_zero, List.set_cons_succ]
        refine mix_nil ?_
        go_wp2
        go_ret
        exact ⟨rfl, hW3.trans ((hE5.trans (hE6.mono hE5.size)).mono hW3.size)⟩
      · obtain ⟨k, hkm, hkk⟩ := turn_at turn q hq0 hq30
        have hkc : k ≤ c2 := by omega
        have hkq : k ≤ q := by omega
        have hkqi : (k : Int) ≤ (q : Int) := by omega
        have hkk2 : IntKind.i64.wrap ((IntKind.u64.wrap turn).tmod (q : Int)) = (k : Int) := hkk
        go_wp2_with fail
        clear hkk hkk2
        refine wp_region_mix (fun _ => True) [(1, true), (2, true), (3, true), (5, true), (6, true), (7, true), (0, false), (4, false), (8, false), (9, false), (10, true), (11, true), (12, true), (13, true), (14, true)] (by kernel_rfl) (by kernel_rfl) (by kernel_rfl) (by kernel_rfl) (fun _ _ d _ _ h => by cases d <;> exact h) trivial ?_
        iterate 6
          apply mix_q rfl rfl
          · intro W _
            go_simp
            try exact rfl
          simp only [Act.put, List.setIfInBounds_toArray, List.set_cons_zero, List.set_cons_succ]
        iterate 1
          refine mix_w rfl rfl (fun K hK => ?_)
          go_simp
          refine hK _ _ trivial ?_
          clear hK K
          try simp only [Act.put, List.setIfInBounds_toArray, List.set_cons_zero, List.set_cons_succ]
        have rdc := ((rd2.out.drew).ext (w := w3.drew) ((Below.refl _ _).alloc (Nat.le_refl _) (.cells #[] 2))).cut (k := k) (c := c2) (by rw [← hq.out]; exact hc2)
        rw [show k * intE.sz = k from Nat.mul_one k] at rdc
        refine mix_w rfl rfl (fun K hK => ?_)
        refine wp_app tyI64 _ _ rfl rfl (own_empty (E := intE) (base := w3.heap.size) w3.drew 2 (Nat.le_refl _)) rfl rdc (by rw [List.length_drop, ← hq.out]) (by simp; rw [← hq.out]; omega) (by simp) ?_
        intro v4 w4 ho4 hg4 _ _
        have hE4 : Ext w3 w4 := (own_empty (E := intE) (base := w3.heap.size) w3.drew 2 (Nat.le_refl _)).below ((Below.refl _ _).drew.alloc (Nat.le_refl _) _) hg4 (by simp)
        obtain ⟨A4, c4, rfl, -, -, -⟩ := ho4.rd
        obtain ⟨p4, hp4⟩ : ∃ p, p = ([] ++ as_.drop k).length := ⟨_, rfl⟩
        rw [← hp4] at ho4 ⊢
        clear hp4
        refine hK _ _ trivial ?_
        clear hK K
        try simp only [Act.put, List.setIfInBounds_toArray, List.set_cons_zero, List.set_cons_succ]
        have rd4 := rd2.out.ext hE4
        refine mix_w rfl rfl (fun K hK => ?_)
        refine wp_app tyI64 _ _ rfl rfl ho4 rfl (rd4.take k) (by rw [List.length_take, ← hq.out]; omega) (by simp; rw [← hq.out]; omega) hE4.size ?_
        intro v5 w5 ho5 hg5 _ _
        have hE5 : Ext w3 w5 := ho4.below hE4 hg5 hE4.size
        obtain ⟨A5, c5, rfl, rd5, -, -⟩ := ho5.rd
        have hpl : ([] ++ as_.drop k ++ as_.take k).length ≤ 1000000 := by have := hq.out; simp; omega
        have hsum := turned_sum k as_
        have hall : ∀ x ∈ [] ++ as_.drop k ++ as_.take k, in64 x := by
          intro x hxm
          rw [List.nil_append] at hxm
          rcases List.mem_append.1 hxm with h | h
          · exact hax.out x (List.mem_of_mem_drop h)
          · exact hax.out x (List.mem_of_mem_take h)
        generalize [] ++ as_.drop k ++ as_.take k = ys at *
        obtain ⟨p5, hp5⟩ : ∃ p, p = ys.length := ⟨_, rfl⟩
        rw [← hp5] at hpl ⊢
        clear ho5 ho4 rd4 hg4 hg5 rdc
        replace hp5 := hide hp5
        replace rd5 := hide rd5
        replace hall := hide hall
        replace hsum := hide hsum
        refine hK _ _ trivial ?_
        clear hK K
        try simp only [Act.put, List.setIfInBounds_toArray, List.set_cons_zero, List.set_cons_succ]
        refine mix_w rfl rfl (fun K hK => ?_)
        go_simp
        refine (sum_any A5 _ c5 _ _ hp5.out rd5.out hall.out hpl).mono ?_
        rintro e w6 ⟨rfl, hE6⟩
        rw [hsum.out]
        rw [← hfs.out]
        rw [show ((f1, f2) : Int × Bool).2 = f2 from rfl, show ((f1, f2) : Int × Bool).1 = f1 from rfl, ← her.out]
        refine hK _ _ trivial ?_
        clear hK K
        try simp only [Act.put, List.setIfInBounds_toArray, List.set_cons_zero, List.set_cons_succ]
        iterate 5
          apply mix_q rfl rfl
          · intro W _
            go_simp
            try exact rfl
          simp only [Act.put, List.setIfInBounds_toArray, List.set_cons_zero, List.set_cons_succ]
        refine mix_nil ?_
        go_wp2
        go_ret
        exact ⟨rfl, hW3.trans ((hE5.trans (hE6.mono hE5.size)).mono hW3.size)⟩
end Go.Proofs.Ytfkmbnlpdolemaa
