/- names: the iterator over the names that are met for the first time. -/
import Derived.Test.YtpfmbehhppbcnaaDoorNumA
import Derived.Test.YtpfmbehhppbcnaaDoorLexC
namespace Go.Proofs.YtpfmbehhppbcnaaDoor
open Go.RowKit Go.Shelf
attribute [local go_sem] Oper.semAt_some

/-- what a round that goes on keeps: what lay ahead of all, and the iterator's own cells -/
structure KpI (n₀ B lB : Nat) (W W' : World) : Prop where
  walks : KeepsWalks W W'
  below : Below n₀ W W'
  cells : ∀ (b : Nat) (o : Obj), (B ≤ b ∨ b = lB) → W.heap[b]? = some o → o.isCells = true → W'.heap[b]? = some o
theorem KpI.trans {n₀ B lB : Nat} {X Y Z : World} (h : KpI n₀ B lB X Y) (k : KpI n₀ B lB Y Z) : KpI n₀ B lB X Z := ⟨h.walks.trans k.walks, h.below.trans k.below, fun b o hb ho hc => k.cells b o hb (h.cells b o hb ho hc) hc⟩
theorem KpI.turn {n₀ B lB : Nat} (hn : n₀ ≤ B) (W : World) (l : Nat) (o o' : Obj) (hl : B ≤ l) (h : W.heap[l]? = some o) (hc : o.isCells = false) (hw : o.isWalk = false) : KpI n₀ B lB W (W.putObj l o') :=
  ⟨KeepsWalks.putObj o' h hw, ⟨rfl, rfl, rfl, by simp, fun k hk => World.putObj_heap_other (by omega)⟩, fun b ob hb ho hcb => by
    by_cases e : b = l
    · subst e; rw [h] at ho; injection ho with ho; subst ho; rw [hc] at hcb; cases hcb
    · exact (World.putObj_heap_other e).trans ho⟩
theorem KpI.cell {n₀ B lB : Nat} {W W' : World} (h : KpI n₀ B lB W W') {b o : Nat} {v : Value} (hb : B ≤ b ∨ b = lB) (hc : W.cell? ⟨b, o, none⟩ = some v) : W'.cell? ⟨b, o, none⟩ = some v := by
  obtain ⟨ob, h1, h2⟩ := cells_of_cell hc
  have h3 := h.cells b ob hb h1 h2
  unfold World.cell? at hc ⊢
  simp only [h3]
  simpa only [h1] using hc
theorem KpI.ext {n₀ B lB : Nat} {W W' : World} (h : Ext W W') (hn : n₀ ≤ W.heap.size) : KpI n₀ B lB W W' :=
  ⟨⟨h.size, fun k o hk _ => (h.block k (Array.getElem?_eq_some_iff.1 hk).1).trans hk⟩, h.mono hn, fun b o _ ho _ => (h.block b (Array.getElem?_eq_some_iff.1 ho).1).trans ho⟩
theorem grown_trans2 {w w1 w2 : World} {row : Option Nat} (h : w.grownBy w1 row) (h' : w1.grownBy w2 row) : w.grownBy w2 row :=
  ⟨h'.os.trans h.os, h'.tape.trans h.tape, h'.output.trans h.output, Nat.le_trans h.size h'.size, fun k hk hne => (h'.block k (Nat.lt_of_lt_of_le hk h.size) hne).trans (h.block k hk hne)⟩
theorem dd_prefix {a b : List ByteArray} : a <+: b → dd a <+: dd b := by
  induction b using snocI with
  | h0 => intro h; rw [List.prefix_nil.1 h]; exact List.prefix_rfl
  | h1 l x ih =>
    intro h
    rcases List.prefix_concat_iff.1 h with rfl | h
    · rw [← List.concat_eq_append]; exact List.prefix_rfl
    · rw [dd_snoc]
      split
      · exact ih h
      · exact (ih h).trans (List.prefix_append _ _)
theorem nm_prefix {a b : List ByteArray} (h : a <+: b) : nm a <+: nm b := by
  obtain ⟨r, rfl⟩ := h
  induction r using snocI with
  | h0 => rw [List.append_nil]; exact List.prefix_rfl
  | h1 l x ih => rw [← List.append_assoc, nm_snoc]; exact ih.trans (List.prefix_append _ _)
theorem nm_dd_prefix {a b : List ByteArray} (h : a <+: b) : nm (dd a) <+: nm (dd b) := nm_prefix (dd_prefix h)
theorem cell_same {w w' : World} {b : Nat} (h : w'.heap[b]? = w.heap[b]?) (o : Nat) : w'.cell? ⟨b, o, none⟩ = w.cell? ⟨b, o, none⟩ := by
  unfold World.cell?
  simp only [h]
theorem grown_drew (w : World) (row : Option Nat) : w.grownBy w.drew row := ⟨rfl, rfl, rfl, Nat.le_refl _, fun _ _ _ => rfl⟩
abbrev NumAt := Nat × ByteArray
def numVals (x : NumAt) : Array Value := #[.int .i64 (x.1 : Int), .string x.2]
set_option maxRecDepth 100000 in
set_option maxHeartbeats 4000000 in
theorem numbered1_in (l lB n₀ B N : Nat) (A : Option Addr) (n c : Nat) (xs : List ByteArray) (hn : n = xs.length) (hl : n ≤ 1000000) (J Jx : List NumAt → World → Prop) (W : World) (hJ : AbidesFrom W.heap.size J) (hn0 : n₀ ≤ B) (hBW : B ≤ W.heap.size)
    (hY : ∀ pre x W1, J pre W1 → x.2 ∈ xs → pre.length < n → YieldAt Fence.wide (N - 1) Tryd.prog l (numVals x) W1 fun e W' =>
      (e = .returned (.bool true) ∧ J (pre ++ [x]) W' ∧ KpI n₀ B lB W1 W') ∨ (e = .returned (.bool false) ∧ Jx (pre ++ [x]) W' ∧ KpI n₀ B lB W1 W'))
    (hlc : W.cell? ⟨lB, 0, none⟩ = some (.slice A n c)) (hr : Rd strE n₀ W A xs) (h0 : J [] W) :
    CallsIn Fence.wide N Tryd.prog 33 #[.func (.yield l) #[] #[], .pointer (some ⟨lB, 0, none⟩)] W fun e W' => (∃ v, e = .returned v) ∧
      ((∃ ys, ys = nm (dd xs) ∧ J ys W') ∨ (∃ pre, pre <+: nm (dd xs) ∧ Jx pre W')) := by
  replace hn := hide hn
  replace hr := hide hr
  have hlw := cell_lt hlc
  refine callsIn_of_wp Tryd.func33 rfl trivial ?_ rfl
  simp only [Tryd.ntmps33, List.size_toArray, List.length_cons, List.length_nil, Nat.reduceAdd, Nat.reduceSub, Array.replicate_succ, Array.replicate_zero, List.push_toArray, List.append_toArray, List.nil_append, List.cons_append]
  gi_wp2
  obtain ⟨w0, hw0⟩ : ∃ x, x = (W.alloc (.map #[] 0)).alloc (.cells #[.map (some W.heap.size)] 66) := ⟨_, rfl⟩
  rw [← hw0]
  have hg0 : W.grownBy w0 none := by rw [hw0]; exact grown_trans2 (World.grownBy_alloc W _ none) (World.grownBy_alloc _ _ none)
  have hB0 : Below n₀ W w0 := by rw [hw0]; exact ((Below.refl _ _).alloc (by omega) _).alloc (by simp; omega) _
  have hS0 : SMap w0 W.heap.size [] := by rw [hw0]; exact (smap_new W).ext ((Below.refl _ _).alloc (Nat.le_refl _) _)
  have hX0 : Box w0 (W.heap.size + 1) 66 (.map (some W.heap.size)) := by
    rw [hw0]
    have := Box.new (W.alloc (.map #[] 0)) 66 (.map (some W.heap.size))
    rw [World.size_alloc] at this
    exact this
  have hJ0 : J [] w0 := hJ _ _ _ none h0 hg0 (fun r e => by cases e)
  have hlc0 : Hid (w0.cell? ⟨lB, 0, none⟩ = some (.slice A n c)) := hide ((cell_same (hg0.block lB hlw (fun e => by cases e)) 0).trans hlc)
  clear hw0 hg0
  obtain ⟨m, hm⟩ : ∃ x, x = W.heap.size := ⟨_, rfl⟩
  rw [← hm] at hS0 hX0 ⊢
  obtain ⟨b3, hb3⟩ : ∃ x, x = m + 1 := ⟨_, rfl⟩
  rw [← hb3] at hX0 ⊢
  have hB3 : B ≤ b3 := by omega
  have hmB : W.heap.size ≤ m := Nat.le_of_eq hm.symm
  have hnm : n₀ ≤ m := by omega
  replace hm := hide hm
  replace hb3 := hide hb3
  replace hS0 := hide hS0
  replace hX0 := hide hX0
  gi_loopw [10] (fun i wr => ∃ k : Nat, k ≤ n ∧ i = .int .i64 k ∧ J (nm (dd (xs.take k))) wr ∧ Below n₀ W wr ∧ Hid (SMap wr m (tm (dd (xs.take k)))) ∧ Hid (Box wr b3 66 (.map (some m))) ∧ Hid (wr.cell? ⟨lB, 0, none⟩ = some (.slice A n c))) (fun i _ => n - (intOf i).toNat)
  case atStart => exact ⟨0, Nat.zero_le _, rfl, hJ0, hB0, hS0, hX0, hlc0⟩
  case round =>
    clear hJ0 hB0 hS0 hX0 hlc0
    obtain ⟨k, hk, rfl, hJk, hBk, hS, hX, hlk⟩ := hrel
    by_cases hlt : k < n
    · have hlt' : (k : Int) < (n : Int) := by omega
      obtain ⟨bk, off, rfl, ra⟩ := hr.out.at_ (i := k) (by rw [← hn.out]; exact hlt)
      obtain ⟨x, hx⟩ := get_some (xs := xs) (i := k) (by rw [← hn.out]; exact hlt)
      have hxc := (ra.below hBk).str hx
      have hlck := hlk.out
      have hts : Hid (xs.take (k + 1) = xs.take k ++ [x]) := hide (take_snoc hx)
      have hxb := hX.out.cell
      replace hx := hide hx
      replace ra := hide ra
      gi_wp2_with fail
      have hfm := enter_firstMet
      have hbk : bk < n₀ := ra.out.1
      refine wp_region_mixW (fun W => W.cell? ⟨lB, 0, none⟩ = some (.slice (some ⟨bk, off, none⟩) n c) ∧ W.cell? ⟨bk, off + k, none⟩ = some (.string x) ∧ W.cell? ⟨b3, 0, none⟩ = some (.map (some m)))
        [(0, true), (1, true), (2, true), (3, true), (4, true), (5, false), (6, true), (7, true), (8, true), (10, true), (11, true), (12, true), (13, true), (9, false), (14, false), (15, true), (16, true)] (by kernel_rfl) (by kernel_rfl) (by kernel_rfl) (by kernel_rfl) (fun _ _ d _ _ h => by cases d <;> exact h) ⟨hlck, hxc, hxb⟩ ?_
      iterate 5
        apply mixW_q rfl rfl
        · intro W hW
          obtain ⟨c1, c2, c3⟩ := hW
          have l1 := cell_lt c1
          have l2 := cell_lt c2
          have l3 := cell_lt c3
          go_simp
          try exact rfl
        simp only [Act.put, List.setIfInBounds_toArray, List.set_cons_zero, List.set_cons_succ]
      refine mixW_w rfl rfl (fun K hK => ?_)
      go_simp
      refine ⟨trivial, fun h => (by cases h), (callsIn_wide.2 (firstMet_any x b3 m (xs.take k) wr.drew hxb (cell_lt hxb) hS.out)).mono ?_⟩
      rintro e w1 ⟨rfl, hS1, hg1, hz1⟩
      have hlm : lB ≠ m := by omega
      have hbm : bk ≠ m := by omega
      have h3m : b3 ≠ m := by have := hb3.out; omega
      have cc1 := (cell_same (hg1.block lB (cell_lt hlck) (fun e => hlm (by injection e))) 0).trans hlck
      have cc2 := (cell_same (hg1.block bk (cell_lt hxc) (fun e => hbm (by injection e))) (off + k)).trans hxc
      have hX1 : Box w1 b3 66 (.map (some m)) := (hg1.block b3 (cell_lt hxb) (fun e => h3m (by injection e))).trans hX.out
      have cc3 := hX1.cell
      have hJ1 : J (nm (dd (xs.take k))) w1 := by
        obtain ⟨es0, cl0, hm0, -⟩ := hS.out
        exact hJ _ _ _ (some m) (hJ _ _ _ none hJk (grown_drew wr none) (fun r e => by cases e)) hg1 (fun r e => by cases e; exact ⟨hmB, _, hm0, rfl⟩)
      have hB1 : Below n₀ W w1 := hBk.drew.trans ⟨hg1.os, hg1.tape, hg1.output, hg1.size, fun i hi => hg1.block i (by have := hBk.size; show i < wr.heap.size; omega) (fun e => by injection e with e; omega)⟩
      refine hK _ _ ⟨cc1, cc2, cc3⟩ ?_
      clear hK K hS hX hJk hBk hg1 hz1 hlck hxc hxb hlk
      try simp only [Act.put, List.setIfInBounds_toArray, List.set_cons_zero, List.set_cons_succ]
      have hle := dd_le (xs.take k)
      rw [List.length_take, ← hn.out] at hle
      by_cases hxd : x ∈ dd (xs.take k)
      · rw [decide_eq_true hxd, show (!true) = false from rfl]
        have hnx : dd (xs.take (k + 1)) = dd (xs.take k) := by rw [hts.out, dd_snoc, if_pos hxd]
        have hJ2 : Hid (J (nm (dd (xs.take (k + 1)))) w1) := hide (by rw [hnx]; exact hJ1)
        have hS2 : Hid (SMap w1 m (tm (dd (xs.take (k + 1))))) := hide (by rw [hts.out]; exact hS1)
        replace hX1 := hide hX1
        replace hxd := hide hxd
        clear hnx hJ1 hS1
        iterate 1
          apply mixW_q rfl rfl
          · intro W hW
            obtain ⟨c1, c2, c3⟩ := hW
            have l1 := cell_lt c1
            have l2 := cell_lt c2
            have l3 := cell_lt c3
            go_simp
            try exact rfl
          simp only [Act.put, List.setIfInBounds_toArray, List.set_cons_zero, List.set_cons_succ]
        iterate 6
          refine mixW_off rfl (wanted_is rfl rfl rfl rfl rfl) ?_
          simp only [Act.put, List.setIfInBounds_toArray, List.set_cons_zero, List.set_cons_succ]
        iterate 2
          refine mixW_woff rfl (wanted_is rfl rfl rfl rfl rfl) ⟨cc1, cc2, cc3⟩ ?_
          simp only [Act.put, List.setIfInBounds_toArray, List.set_cons_zero, List.set_cons_succ]
        refine mixW_off rfl (wanted_is rfl rfl rfl rfl rfl) ?_
        simp only [Act.put, List.setIfInBounds_toArray, List.set_cons_zero, List.set_cons_succ]
        iterate 1
          apply mixW_q rfl rfl
          · intro W hW
            obtain ⟨c1, c2, c3⟩ := hW
            have l1 := cell_lt c1
            have l2 := cell_lt c2
            have l3 := cell_lt c3
            go_simp
            try exact rfl
          simp only [Act.put, List.setIfInBounds_toArray, List.set_cons_zero, List.set_cons_succ]
        refine mixW_nil ?_
        gi_wp2
        go_roundw
        case rel => exact ⟨k + 1, by omega, by go_num, hJ2.out, hB1, hS2, hX1, hide cc1⟩
        case measure => simp [intOf]; omega
      · rw [decide_eq_false hxd, show (!false) = true from rfl]
        have hnx : Hid (dd (xs.take (k + 1)) = dd (xs.take k) ++ [x]) := hide (by rw [hts.out, dd_snoc, if_neg hxd])
        have hnm2 : Hid (nm (dd (xs.take (k + 1))) = nm (dd (xs.take k)) ++ [((dd (xs.take k)).length + 1, x)]) := hide (by rw [hnx.out, nm_snoc])
        obtain ⟨es, clock, hmo, hes⟩ := hS1.size
        have hes2 : es.size = (dd (xs.take k)).length + 1 := by
          rw [hes, ← hts.out, hnx.out, tm_snoc, List.length_append]
          unfold tm
          rw [List.length_map]; rfl
        have hlt2 : (nm (dd (xs.take k))).length < n := by rw [nm_length]; omega
        obtain ⟨d, hd⟩ : ∃ d, d = (dd (xs.take k)).length + 1 := ⟨_, rfl⟩
        rw [← hd] at hes2 hnm2
        have hlen : ∀ ty, (Builtin.len_ #[66] ty #[.map (some m)]).run Tryd.prog w1 = .ok (.int .i64 (d : Int)) w1 := fun ty => by
          rw [run_len_map w1 66 ty m es clock (by kernel_rfl) hmo, hes2]; rfl
        obtain ⟨fn, tmps, assign, body, hy, hR⟩ := hY (nm (dd (xs.take k))) (d, x) w1 hJ1 (List.mem_of_getElem? hx.out) hlt2
        dsimp only [numVals] at hy
        replace hxd := hide hxd
        replace hd := hide hd
        replace hS1 := hide hS1
        clear hJ1 hes
        iterate 1
          apply mixW_q rfl rfl
          · intro W hW
            obtain ⟨c1, c2, c3⟩ := hW
            have l1 := cell_lt c1
            have l2 := cell_lt c2
            have l3 := cell_lt c3
            go_simp
            try exact rfl
          simp only [Act.put, List.setIfInBounds_toArray, List.set_cons_zero, List.set_cons_succ]
        iterate 6
          apply mixW_on rfl (wanted_is rfl rfl rfl rfl rfl)
          · intro W hW
            obtain ⟨c1, c2, c3⟩ := hW
            have l1 := cell_lt c1
            have l2 := cell_lt c2
            have l3 := cell_lt c3
            go_simp
            try exact rfl
          simp only [Act.put, List.setIfInBounds_toArray, List.set_cons_zero, List.set_cons_succ]
        refine mixW_won rfl (wanted_is rfl rfl rfl rfl rfl) (fun K hK => ?_)
        go_simp
        refine hK _ _ ⟨cc1, cc2, cc3⟩ ?_
        clear hK K hlen
        try simp only [Act.put, List.setIfInBounds_toArray, List.set_cons_zero, List.set_cons_succ]
        refine mixW_won rfl (wanted_is rfl rfl rfl rfl rfl) (fun K hK => ?_)
        go_simp
        refine ⟨fun h => (by cases h), hR.mono ?_⟩
        rintro e W4 (⟨rfl, hJ4, hkp⟩ | ⟨rfl, hJx, hkp⟩)
        · have e1 := hkp.cell (.inr rfl) cc1
          have e2 := (hkp.below.cell (p := ⟨bk, off + k, none⟩) hbk).trans cc2
          have hX4 : Box W4 b3 66 (.map (some m)) := hkp.cells b3 _ (.inl hB3) hX1 rfl
          have e3 := hX4.cell
          have hB4 : Below n₀ W W4 := hB1.trans hkp.below
          have hS4 : Hid (SMap W4 m (tm (dd (xs.take (k + 1))))) := hide (by rw [hts.out]; exact hS1.out.walks hkp.walks)
          rw [← hnm2.out] at hJ4
          refine hK _ _ ⟨e1, e2, e3⟩ ?_
          clear hK K cc1 cc2 cc3 hX1 hS1 hB1 hR hy hmo
          replace hX4 := hide hX4
          try simp only [Act.put, List.setIfInBounds_toArray, List.set_cons_zero, List.set_cons_succ]
          iterate 1
            apply mixW_on rfl (wanted_is rfl rfl rfl rfl rfl)
            · intro W hW
              obtain ⟨c1, c2, c3⟩ := hW
              have l1 := cell_lt c1
              have l2 := cell_lt c2
              have l3 := cell_lt c3
              go_simp
              try exact rfl
            simp only [Act.put, List.setIfInBounds_toArray, List.set_cons_zero, List.set_cons_succ]
          iterate 1
            apply mixW_q rfl rfl
            · intro W hW
              obtain ⟨c1, c2, c3⟩ := hW
              have l1 := cell_lt c1
              have l2 := cell_lt c2
              have l3 := cell_lt c3
              go_simp
              try exact rfl
            simp only [Act.put, List.setIfInBounds_toArray, List.set_cons_zero, List.set_cons_succ]
          refine mixW_nil ?_
          gi_wp2
          go_roundw
          case rel => exact ⟨k + 1, by omega, by go_num, hJ4, hB4, hS4, hX4, hide e1⟩
          case measure => simp [intOf]; omega
        · have e1 := hkp.cell (.inr rfl) cc1
          have e2 := (hkp.below.cell (p := ⟨bk, off + k, none⟩) hbk).trans cc2
          have e3 := (show Box W4 b3 66 (.map (some m)) from hkp.cells b3 _ (.inl hB3) hX1 rfl).cell
          rw [← hnm2.out] at hJx
          refine hK _ _ ⟨e1, e2, e3⟩ ?_
          clear hK K cc1 cc2 cc3 hX1 hS1 hB1 hR hy hmo
          try simp only [Act.put, List.setIfInBounds_toArray, List.set_cons_zero, List.set_cons_succ]
          iterate 1
            apply mixW_on rfl (wanted_is rfl rfl rfl rfl rfl)
            · intro W hW
              obtain ⟨c1, c2, c3⟩ := hW
              have l1 := cell_lt c1
              have l2 := cell_lt c2
              have l3 := cell_lt c3
              go_simp
              try exact rfl
            simp only [Act.put, List.setIfInBounds_toArray, List.set_cons_zero, List.set_cons_succ]
          iterate 1
            apply mixW_q rfl rfl
            · intro W hW
              obtain ⟨c1, c2, c3⟩ := hW
              have l1 := cell_lt c1
              have l2 := cell_lt c2
              have l3 := cell_lt c3
              go_simp
              try exact rfl
            simp only [Act.put, List.setIfInBounds_toArray, List.set_cons_zero, List.set_cons_succ]
          refine mixW_nil ?_
          gi_wp2
          refine bodyPost_ret (results_none rfl _ _ _) rfl ?_
          exact ⟨⟨_, rfl⟩, .inr ⟨_, nm_dd_prefix (List.take_prefix _ _), hJx⟩⟩
    · have hlt' : ¬ (k : Int) < (n : Int) := by omega
      have hkn : k = n := by omega
      have hJ2 : Hid (J (nm (dd xs)) wr) := hide (by have h := hJk; rw [hkn, hn.out, List.take_length] at h; exact h)
      clear hkn
      gi_wp2
      go_end0
      exact ⟨⟨_, rfl⟩, .inl (by first | exact hJ2.out | exact ⟨_, rfl, hJ2.out⟩)⟩
/-- the iterator's contract -/
theorem numbered_stops (N lB n₀ : Nat) (A : Option Addr) (n c : Nat) (xs : List ByteArray) (w : World) (hn : n = xs.length) (hl : n ≤ 1000000) (hn0 : n₀ ≤ w.heap.size) (hlc : w.cell? ⟨lB, 0, none⟩ = some (.slice A n c)) (hr : Rd strE n₀ w A xs) (hm : ∀ x ∈ xs, x.size ≤ maxLen) :
    SeqX Fence.wide N Tryd.prog 33 #[.pointer (some ⟨lB, 0, none⟩)] numVals (KpI n₀ w.heap.size lB) (KpI n₀ w.heap.size lB) (fun x _ => x.2.size ≤ maxLen) (fun xs' => xs' = nm (dd xs)) (fun pre => pre <+: nm (dd xs)) n w := by
  intro l J Jx W hW hJ _ hY h0
  exact numbered1_in l lB n₀ w.heap.size N A n c xs hn hl J Jx W hJ hn0 hW.size (fun pre x W1 h1 h2 h3 => hY pre x W1 h1 (hm _ h2) h3) ((hW.cell (p := ⟨lB, 0, none⟩) (cell_lt hlc)).trans hlc) (hr.below (hW.mono hn0)) h0
theorem numbered_any (A : Option Addr) (n c : Nat) (w : World) : Calls Tryd.prog 27 #[.slice A n c] w fun e w' => e = .returned (.func (.func 33) #[] #[.pointer (some ⟨w.heap.size, 0, none⟩)]) ∧ w' = w.alloc (.cells #[.slice A n c] 24) := by
  go_enter Tryd.func27, Tryd.ntmps27
  go_wp2
  go_ret
  exact ⟨rfl, rfl⟩
end Go.Proofs.YtpfmbehhppbcnaaDoor
