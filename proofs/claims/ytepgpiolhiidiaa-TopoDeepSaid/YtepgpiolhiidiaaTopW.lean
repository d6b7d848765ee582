/- topo.places, topo.Right. -/
import Derived.Test.YtepgpiolhiidiaaTopV
import Derived.Test.YtepgpiolhiidiaaTopG
import Derived.Test.YtepgpiolhiidiaaTopJ
import Derived.Test.YtepgpiolhiidiaaTopP
namespace Go.Proofs.Ytepgpiolhiidiaa
open Go.RowKit Go.Shelf
attribute [local go_sem] Oper.semAt_some

/-- the places of the nodes met so far -/
def atF (l : List Int) (k : Nat) (j : Nat) : Int := if (j : Int) ∈ l.take k then (plc l (j : Int) : Int) else -1
theorem atF_zero (nn : Nat) (l : List Int) : List.replicate nn (-1 : Int) = rowF nn (atF l 0) := by
  apply List.ext_getElem?
  intro j
  by_cases hj : j < nn
  · rw [rowF_get hj, List.getElem?_replicate, if_pos hj]
    unfold atF
    rw [List.take_zero, if_neg List.not_mem_nil]
  · rw [List.getElem?_eq_none (by simp; omega), List.getElem?_eq_none (by rw [rowF_len]; omega)]
theorem atF_step {l : List Int} {k i : Nat} (hx : l[k]? = some (i : Int)) (hn : (i : Int) ∉ l.take k) (j : Nat) : atF l (k + 1) j = if j = i then (k : Int) else atF l k j := by
  unfold atF
  rw [take_snoc hx]
  by_cases hji : j = i
  · subst hji
    rw [if_pos (by simp), if_pos rfl]
    have hs : l = l.take k ++ (j : Int) :: l.drop (k + 1) := by
      conv => lhs; rw [← List.take_append_drop k l, List.drop_eq_getElem_cons (List.getElem?_eq_some_iff.1 hx).1]
      rw [(List.getElem?_eq_some_iff.1 hx).2]
    have hl : (l.take k).length = k := by rw [List.length_take]; have := (List.getElem?_eq_some_iff.1 hx).1; omega
    have := plc_split (q := l.drop (k + 1)) hn
    rw [← hs, hl] at this
    rw [this]
  · rw [if_neg hji]
    have : (j : Int) ∈ l.take k ++ [(i : Int)] ↔ (j : Int) ∈ l.take k := by
      rw [List.mem_append, List.mem_singleton]
      constructor
      · rintro (h | h)
        · exact h
        · omega
      · exact .inl
    simp only [this]
theorem atF_end {l : List Int} {nn : Nat} (h : OrdOk nn l) : rowF nn (atF l l.length) = rowF nn fun j => (plc l (j : Int) : Int) := by
  refine rowF_congr fun j hj => ?_
  unfold atF
  rw [List.take_length, if_pos (ordOk_mem h (by omega))]
theorem neg_ge (l : List Int) (k j : Nat) : (0 ≤ atF l k j) ↔ (j : Int) ∈ l.take k := by
  unfold atF
  split <;> simp_all <;> omega
set_option maxRecDepth 100000 in
set_option maxHeartbeats 4000000 in
theorem places_any (nn : Nat) (A : Option Addr) (m c : Nat) (A2 : Option Addr) (n2 c2 : Nat) (l : List Int) (w : World) (hnn : nn ≤ 300) (h : Rd intE w.heap.size w A2 l) (hn : n2 = l.length) :
    Calls Try.prog 31 #[.agg #[.int .i64 nn, .slice A m c], .slice A2 n2 c2] w fun e w' => ∃ (v : Value) (b : Bool), e = .returned (.tuple #[v, .bool b]) ∧ (b = true ↔ OrdOk nn l) ∧
      Own intE 3 w.heap.size w' v (if b = true then rowF nn fun j => (plc l (j : Int) : Int) else []) ∧ Ext w w' := by
  replace h := hide h
  replace hn := hide hn
  go_enter Try.func31, Try.ntmps31
  go_upto_region 1 with fail
  obtain ⟨w0, hw0⟩ : ∃ w0, w0 = w.alloc (.cells #[.int .i64 nn, .slice A m c] 24) := ⟨_, rfl⟩
  rw [← hw0]
  have hE0 : Ext w w0 := by rw [hw0]; exact (Below.refl _ _).alloc (Nat.le_refl _) _
  have X1 : BoxG w0 w.heap.size nn A m c := by rw [hw0]; exact BoxN.new w _ _
  clear hw0
  obtain ⟨pg, hpg⟩ : ∃ b, b = w.heap.size := ⟨_, rfl⟩
  rw [← hpg] at X1 ⊢
  clear hpg
  have k10 := X1.cell 0 (v := .int .i64 (nn : Int)) rfl
  have s1 := X1.lt
  by_cases hlen : n2 = nn
  · subst hlen
    have hlen' : (((n2 : Int) == (n2 : Int)) = true) := by simp
    obtain ⟨w1, hw1⟩ : ∃ w1, w1 = w0.alloc (.cells #[.int .i64 (-1)] 3) := ⟨_, rfl⟩
    have hE1 : Ext w0 w1 := by rw [hw1]; exact (Below.refl _ _).alloc (Nat.le_refl _) _
    have hr1 : Rd intE w1.heap.size w1 (some ⟨w0.heap.size, 0, none⟩) [-1] := by
      have := rd_newAt (e := 3) intE w0 (-1) w0.heap.size rfl
      rw [hw1]
      simpa [intE] using this
    have hrep := hide (repeat_any (some ⟨w0.heap.size, 0, none⟩) 1 n2 (-1) w1 (by omega) hr1)
    have X1b := X1.ext hE1
    have hE01 := hE0.trans (hE1.mono hE0.size)
    have k10' := X1b.cell 0 (v := .int .i64 (n2 : Int)) rfl
    have s1' := X1b.lt
    rw [hw1] at hrep k10' s1'
    go_wp2_with fail
    refine hrep.out.mono ?_
    rintro e w2 ⟨v, rfl, hO, hE2⟩
    rw [← hw1] at hE2 hO
    obtain ⟨A5, c5, rfl, -, -, -⟩ := hO.rd
    rw [List.length_replicate] at hO ⊢
    have hE12 := hE1.trans (hE2.mono hE1.size)
    have hE02 := hE01.trans (hE2.mono hE01.size)
    have hO1 : Hid (Own intE 3 w1.heap.size w2 (.slice A5 n2 c5) (rowF n2 (atF l 0))) := hide (by rw [← atF_zero]; exact hO)
    have hw1s := hE01.size
    clear hrep k10' s1' hw1 k10 s1 hr1 hO X1 hE12
    have hnd0 : Hid ((l.take 0).Nodup ∧ ∀ v ∈ l.take 0, 0 ≤ v ∧ v < n2) := hide ⟨List.nodup_nil, fun v hv => by cases hv⟩
    replace X1b := hide X1b
    go_wp2
    go_loopw [20] (fun q wr => ∃ k : Nat, k ≤ n2 ∧ q = .int .i64 k ∧ Hid ((l.take k).Nodup ∧ ∀ v ∈ l.take k, 0 ≤ v ∧ v < n2) ∧ Hid (Own intE 3 w1.heap.size wr (.slice A5 n2 c5) (rowF n2 (atF l k))) ∧ Ext w1 wr) (fun q _ => n2 - (intOf q).toNat)
    case atStart => exact ⟨0, Nat.zero_le _, rfl, hnd0, hO1, hE2⟩
    case round =>
      clear hO1 hnd0 hE2 hE02
      obtain ⟨k, hk, rfl, hnd, hO1, hEr⟩ := hrel
      have hEw := hE01.trans (hEr.mono hE01.size)
      by_cases hlt : k < n2
      · have hlt' : (k : Int) < (n2 : Int) := by omega
        obtain ⟨bk, off, rfl, ra⟩ := h.out.at_ (i := k) (by rw [← hn.out]; exact hlt)
        obtain ⟨x, hx⟩ := get_some (xs := l) (i := k) (by rw [← hn.out]; exact hlt)
        have hx1 := (ra.below hEw).int hx
        have hbk : bk < wr.heap.size := cell_lt hx1
        have hX := X1b.out.ext hEr
        have k10 := hX.cell 0 (v := .int .i64 (n2 : Int)) rfl
        have s1 := hX.lt
        have hmem : x ∈ l := List.mem_of_getElem? hx
        by_cases hr : 0 ≤ x ∧ x < n2
        · obtain ⟨i, rfl⟩ : ∃ i : Nat, x = (i : Int) := ⟨x.toNat, by omega⟩
          obtain ⟨hr1, hr2⟩ := hr
          have hin : i < n2 := by omega
          have hr3 : ¬ (i : Int) < 0 := by omega
          have hr4 : ¬ (n2 : Int) ≤ (i : Int) := by omega
          obtain ⟨y, hy⟩ : ∃ y, y = atF l k i := ⟨_, rfl⟩
          have hyn := neg_ge l k i
          rw [← hy] at hyn
          obtain ⟨g, rfl, hgs, hc⟩ := hO1.out.at1 hin
          rw [show gi (rowF n2 (atF l k)) i = y by rw [hy]; exact gi_some (rowF_get hin)] at hc
          by_cases hy0 : 0 ≤ y
          · have hno : Hid (¬ OrdOk n2 l) := hide (fun ho => nodup_take ho.2.1 hx (hyn.1 hy0))
            replace hyn := hide hyn
            replace hy := hide hy
            replace hx := hide hx
            replace hmem := hide hmem
            replace ra := hide ra
            clear hO1 hnd hX
            go_wp2
            go_ret2
            first | exact ⟨_, _, rfl, ⟨fun e => (by cases e), fun ho => absurd ho hno.out⟩, Own.nil_, hEw⟩ | exact ⟨_, .inl ⟨rfl, hno.out, Own.nil_, hEw⟩⟩ | (refine ⟨_, rfl, ?_, ?_, hEw⟩ <;> first | exact hno.out | (simp; exact hno.out) | exact Own.nil_)
          · have hnp : (i : Int) ∉ l.take k := fun hc2 => hy0 (hyn.2 hc2)
            obtain ⟨g', u, hg0, hgb, -, hg3, hg4, hS, cur, hcur⟩ := hO1.out.setInt hin (k : Int)
            injection hg0 with hg1
            injection hg1 with hg2
            subst hg2
            have hrow : rowF n2 (atF l (k + 1)) = (rowF n2 (atF l k)).set i (k : Int) := by
              rw [rowF_set]
              exact rowF_congr fun j _ => atF_step hx hnp j
            rw [← hrow] at hS
            have hnd2 : Hid ((l.take (k + 1)).Nodup ∧ ∀ v ∈ l.take (k + 1), 0 ≤ v ∧ v < n2) := hide (by
              rw [take_snoc hx]
              refine ⟨List.nodup_append.2 ⟨hnd.out.1, by simp, fun a ha b hb => ?_⟩, fun v hv => ?_⟩
              · obtain rfl : b = (i : Int) := by simpa using hb
                exact fun e => hnp (e ▸ ha)
              · rcases List.mem_append.1 hv with hv | hv
                · exact hnd.out.2 v hv
                · obtain rfl : v = (i : Int) := by simpa using hv
                  exact ⟨hr1, hr2⟩)
            have hEs := hide (hEr.setCell (p := ⟨g, i, none⟩) hgb (.int .i64 k))
            replace hS := hide hS
            replace hyn := hide hyn
            replace hy := hide hy
            replace hx := hide hx
            replace hmem := hide hmem
            replace hnp := hide hnp
            replace ra := hide ra
            clear hO1 hnd hX hg3 hcur hrow
            go_wp2
            refine ⟨?_, ?_⟩
            · first
                | exact ⟨k + 1, by omega, by first | omega | go_num, hnd2, hS, hEs.out⟩
                | ((repeat apply Exists.intro); exact ⟨⟨k + 1, by omega, by first | omega | go_num, hnd2, hS, hEs.out⟩, rfl⟩)
            · first | (simp [intOf, lenV]; omega) | (simp [intOf]; omega) | (simp [intOf]; done)
        · have hno : Hid (¬ OrdOk n2 l) := hide (fun ho => hr (ho.2.2 x hmem))
          replace hx := hide hx
          replace hmem := hide hmem
          replace ra := hide ra
          clear hO1 hnd hX
          by_cases h0 : x < 0
          · clear hr
            go_wp2
            go_ret2
            first | exact ⟨_, _, rfl, ⟨fun e => (by cases e), fun ho => absurd ho hno.out⟩, Own.nil_, hEw⟩ | exact ⟨_, .inl ⟨rfl, hno.out, Own.nil_, hEw⟩⟩ | (refine ⟨_, rfl, ?_, ?_, hEw⟩ <;> first | exact hno.out | (simp; exact hno.out) | exact Own.nil_)
          · have h1 : (n2 : Int) ≤ x := by omega
            clear hr
            go_wp2
            go_ret2
            first | exact ⟨_, _, rfl, ⟨fun e => (by cases e), fun ho => absurd ho hno.out⟩, Own.nil_, hEw⟩ | exact ⟨_, .inl ⟨rfl, hno.out, Own.nil_, hEw⟩⟩ | (refine ⟨_, rfl, ?_, ?_, hEw⟩ <;> first | exact hno.out | (simp; exact hno.out) | exact Own.nil_)
      · have hlt' : ¬ (k : Int) < (n2 : Int) := by omega
        have hkl : k = l.length := by have := hn.out; omega
        have hok : Hid (OrdOk n2 l) := hide (by
          have := hnd.out
          rw [hkl, List.take_length] at this
          exact ⟨hn.out.symm, this⟩)
        have hOf : Hid (Own intE 3 w.heap.size wr (.slice A5 n2 c5) (rowF n2 fun j => (plc l (j : Int) : Int))) := hide (by
          have h1 := hO1.out
          rw [hkl, atF_end hok.out] at h1
          exact h1.base_le hE01.size)
        clear hO1 hnd hkl
        replace hEw := hide hEw
        go_wp2
        go_ret2
        first | exact ⟨_, .inr ⟨rfl, hok.out, hOf.out, hEw.out⟩⟩ | exact ⟨_, _, rfl, ⟨fun _ => hok.out, fun _ => rfl⟩, by rw [if_pos rfl]; exact hOf.out, hEw.out⟩
  · have hlen' : (((n2 : Int) == (nn : Int)) = false) := by simp; omega
    have hno : Hid (¬ OrdOk nn l) := hide (fun ho => hlen (hn.out.trans ho.1))
    go_wp2
    go_ret2
    first | exact ⟨_, _, rfl, ⟨fun e => (by cases e), fun ho => absurd ho hno.out⟩, Own.nil_, hE0⟩ | exact ⟨_, .inl ⟨rfl, hno.out, Own.nil_, hE0⟩⟩
/-- the edge leads back -/
def backE (l : List Int) (e : Int × Int × Int) : Bool := decide ((plc l e.2.1 : Int) < (plc l e.1 : Int))
set_option maxHeartbeats 1000000 in
theorem rightFun_any (nn aB : Nat) (A : Option Addr) (c : Nat) (l : List Int) (a b k : Int) (w : World) (ha : 0 ≤ a ∧ a < nn) (hb : 0 ≤ b ∧ b < nn) (X : Box w aB 28 (.slice A nn c)) (hO : Own intE 3 0 w (.slice A nn c) (rowF nn fun j => (plc l (j : Int) : Int))) :
    Calls Try.prog 32 #[.agg #[.int .i64 a, .int .i64 b, .int .i64 k], .pointer (some ⟨aB, 0, none⟩)] w fun e w' => e = .returned (.bool (backE l (a, b, k))) ∧ Ext w w' := by
  obtain ⟨i, rfl⟩ : ∃ i : Nat, a = (i : Int) := ⟨a.toNat, by omega⟩
  obtain ⟨j, rfl⟩ : ∃ j : Nat, b = (j : Int) := ⟨b.toNat, by omega⟩
  obtain ⟨a1, a2⟩ := ha
  obtain ⟨b1, b2⟩ := hb
  obtain ⟨g, rfl, hgs, c1⟩ := hO.at1 (i := i) (by omega)
  obtain ⟨g2, hg2, -, c2⟩ := hO.at1 (i := j) (by omega)
  injection hg2 with hg2
  injection hg2 with hg2
  subst hg2
  rw [gi_some (rowF_get (f := fun j => (plc l (j : Int) : Int)) (show i < nn by omega))] at c1
  rw [gi_some (rowF_get (f := fun j => (plc l (j : Int) : Int)) (show j < nn by omega))] at c2
  obtain ⟨y, hy⟩ : ∃ y, y = backE l ((i : Int), (j : Int), k) := ⟨_, rfl⟩
  obtain ⟨u, hu⟩ : ∃ u, u = (plc l (i : Int) : Int) := ⟨_, rfl⟩
  obtain ⟨v, hv⟩ : ∃ u, u = (plc l (j : Int) : Int) := ⟨_, rfl⟩
  have hyy : Hid (y = decide (v < u)) := hide (by rw [hy, hu, hv]; rfl)
  rw [← hy]
  rw [← hu] at c1
  rw [← hv] at c2
  clear hO hy hu hv
  have hE : Ext w (w.alloc (.cells #[.int .i64 i, .int .i64 j, .int .i64 k] 50)) := (Below.refl _ _).alloc (Nat.le_refl _) _
  have X2 := X.ext hE
  obtain ⟨w1, hw1⟩ : ∃ w1, w1 = w.alloc (.cells #[.int .i64 i, .int .i64 j, .int .i64 k] 50) := ⟨_, rfl⟩
  have XE : BoxN w1 w.heap.size 50 #[.int .i64 i, .int .i64 j, .int .i64 k] := by rw [hw1]; exact BoxN.new _ _ _
  rw [← hw1] at hE X2
  have d1 : w1.cell? ⟨g, i, none⟩ = some (.int .i64 u) := (hE.cell (p := ⟨g, i, none⟩) hgs).trans c1
  have d2 : w1.cell? ⟨g, j, none⟩ = some (.int .i64 v) := (hE.cell (p := ⟨g, j, none⟩) hgs).trans c2
  have hgs' : g < w1.heap.size := Nat.lt_of_lt_of_le hgs hE.size
  obtain ⟨pe, hpe⟩ : ∃ q, q = w.heap.size := ⟨_, rfl⟩
  have k0 := X2.cell
  have s0 := X2.lt
  have e0 := XE.cell 0 (v := .int .i64 i) rfl
  have e1 := XE.cell 1 (v := .int .i64 j) rfl
  have se := XE.lt
  rw [← hpe] at e0 e1 se
  clear X X2 XE c1 c2
  replace hE := hide hE
  go_enter Try.func32, Try.ntmps32
  go_upto_region 1 with fail
  rw [← hw1, ← hpe]
  clear hw1 hpe
  refine wp_region_reads [(0, true), (1, true), (2, true), (3, true), (4, true), (5, true), (6, true), (7, true), (8, true), (9, true), (10, true), (11, true)] (by kernel_rfl) (by kernel_rfl) (by kernel_rfl) (by kernel_rfl) (fun _ _ d _ _ h => by cases d <;> exact h) ?_
  iterate 12
    apply mix_q rfl rfl
    · intro W hW
      subst hW
      go_simp
      try exact rfl
    simp only [Act.put, List.setIfInBounds_toArray, List.set_cons_zero, List.set_cons_succ]
  refine mix_nil ?_
  go_wp2
  go_ret
  exact ⟨by rw [hyy.out]; rfl, hE.out.drew⟩
theorem enter_rightF (args : Array Value) (w : World) : (callFunc 32 args).run Try.prog w = .ok (.enter 32 args) w := enters_of Try.func32 (by kernel_rfl) rfl args w
/-- topo.Right's answer -/
def topR (n : Int) (xs : List (Int × Int × Int)) (l : List Int) : Bool := rightG n xs && refR n.toNat xs l
set_option maxRecDepth 100000 in
set_option maxHeartbeats 4000000 in
theorem right_any (n : Int) (A : Option Addr) (m c : Nat) (xs : List (Int × Int × Int)) (A2 : Option Addr) (n2 c2 : Nat) (l : List Int) (w : World) (h : Rd edgeE w.heap.size w A xs) (hm : m = xs.length) (hl : m ≤ 1000000) (h2 : Rd intE w.heap.size w A2 l) (hn2 : n2 = l.length) :
    Calls Try.prog 11 #[.agg #[.int .i64 n, .slice A m c], .slice A2 n2 c2] w fun e w' => e = .returned (.bool (topR n xs l)) ∧ Ext w w' := by
  obtain ⟨y1, hy1⟩ : ∃ q, q = topR n xs l := ⟨_, rfl⟩
  rw [← hy1]
  replace hy1 := hide hy1
  replace h := hide h
  replace hm := hide hm
  replace h2 := hide h2
  replace hn2 := hide hn2
  go_enter Try.func11, Try.ntmps11
  go_upto_region 1 with fail
  obtain ⟨w0, hw0⟩ : ∃ w0, w0 = w.alloc (.cells #[.int .i64 n, .slice A m c] 24) := ⟨_, rfl⟩
  rw [← hw0]
  have hE0 : Ext w w0 := by rw [hw0]; exact (Below.refl _ _).alloc (Nat.le_refl _) _
  have X1 : BoxG w0 w.heap.size n A m c := by rw [hw0]; exact BoxN.new w _ _
  clear hw0
  obtain ⟨pg, hpg⟩ : ∃ b, b = w.heap.size := ⟨_, rfl⟩
  rw [← hpg] at X1 ⊢
  clear hpg
  have k10 := X1.cell 0 (v := .int .i64 n) rfl
  have k11 := X1.cell 1 (v := .slice A m c) rfl
  have s1 := X1.lt
  go_wp2_with fail
  refine (check_any n A m c xs _ (h.out.ext hE0) hm.out hl).mono ?_
  rintro e w1 ⟨rfl, hE⟩
  replace X1 := X1.ext hE
  have hB := hE0.trans (hE.mono hE0.size)
  clear k10 k11 s1 hE hE0
  cases hr : rightG n xs with
  | false =>
    rw [chkG_no hr]
    have v1 : Hid (y1 = false) := hide (by rw [hy1.out]; unfold topR; rw [hr]; rfl)
    replace hr := hide hr
    go_wp2
    go_ret
    exact ⟨by rw [v1.out]; rfl, hB⟩
  | true =>
    rw [chkG_yes hr]
    obtain ⟨r1, r2, r3, r4, r5⟩ := (rightG_iff n xs).1 hr
    obtain ⟨nn, rfl⟩ : ∃ nn : Nat, n = nn := ⟨n.toNat, by omega⟩
    have hnn : nn ≤ 300 := by omega
    have hj := joins_of hr
    have hy2 : Hid (y1 = true ↔ OrdOk nn l ∧ ∀ e ∈ xs, backE l e = false) := hide (by
      rw [hy1.out]
      unfold topR
      rw [hr, Bool.true_and, Int.toNat_natCast, refR_iff hj, ← codeR_iff hj]
      unfold backE
      refine and_congr Iff.rfl (forall_congr' fun e => forall_congr' fun _ => ?_)
      rw [decide_eq_false_iff_not]
      omega)
    have hfr : Hid (∀ x ∈ xs, (0 ≤ x.1 ∧ x.1 < nn) ∧ 0 ≤ x.2.1 ∧ x.2.1 < nn) := hide (fun x hx => by have := (rightE_iff _ x).1 (r4 x hx); omega)
    have k10 := X1.cell 0 (v := .int .i64 (nn : Int)) rfl
    have k11 := X1.cell 1 (v := .slice A m c) rfl
    have s1 := X1.lt
    replace hj := hide hj
    replace hr := hide hr
    clear r1 r2 r3 r4 r5
    go_wp2_with fail
    refine (places_any nn A m c A2 n2 c2 l _ hnn (h2.out.ext hB) hn2.out).mono ?_
    rintro e w2 ⟨v, b, rfl, hb, hO, hE2⟩
    have hB2 := hB.trans (hE2.mono hB.size)
    replace X1 := X1.ext hE2
    clear k10 k11 s1
    replace hb := hide hb
    cases b with
    | false =>
      have v1 : Hid (y1 = false) := hide (by
        cases hc : y1 with
        | false => rfl
        | true =>
          have := hb.out.2 (hy2.out.1 hc).1
          cases this)
      obtain ⟨A5, c5, rfl, -, -, -⟩ := hO.rd
      clear hO
      have hBa := hide (hB2.alloc hB2.size (.cells #[.slice A5 0 c5] 28))
      go_wp2
      go_ret
      exact ⟨by rw [v1.out]; rfl, hBa.out⟩
    | true =>
      have hok := hb.out.1 rfl
      rw [if_pos rfl] at hO
      obtain ⟨A5, c5, rfl, -, -, -⟩ := hO.rd
      rw [rowF_len] at hO ⊢
      obtain ⟨w3, hw3⟩ : ∃ q, q = w2.alloc (.cells #[.slice A5 nn c5] 28) := ⟨_, rfl⟩
      have hE3 : Ext w2 w3 := by rw [hw3]; exact (Below.refl _ _).alloc (Nat.le_refl _) _
      have X5 : Box w3 w2.heap.size 28 (.slice A5 nn c5) := by rw [hw3]; exact Box.new _ _ _
      have hO3 := (hO.ext hE3).base_le (Nat.zero_le _)
      have hB3 := hB2.trans (hE3.mono hB2.size)
      have X1c := X1.ext hE3
      have hH : HoldP 32 #[.pointer (some ⟨w2.heap.size, 0, none⟩)] xs (backE l) w3 := ⟨enter_rightF, fun a b k W hx hW => rightFun_any nn w2.heap.size A5 c5 l a b k W (hfr.out _ hx).1 (hfr.out _ hx).2 (X5.ext hW) (hO3.ext hW)⟩
      have hcon := hide (containsE_any A m c xs 32 #[.pointer (some ⟨w2.heap.size, 0, none⟩)] (backE l) w3 (h.out.ext hB3) hm.out hl hH)
      have k11 := X1c.cell 1 (v := .slice A m c) rfl
      have s1 := X1c.lt
      have hfin : Hid (y1 = !(xs.any (backE l))) := hide (by
        rw [Bool.eq_iff_iff, hy2.out, Bool.not_eq_true', List.any_eq_false]
        constructor
        · rintro ⟨-, h1⟩ e he
          rw [h1 e he]; decide
        · intro h1
          exact ⟨hok, fun e he => by have := h1 e he; simpa using this⟩)
      clear hO X1 hO3 X1c X5 hH hok hb
      rw [hw3] at hcon k11 s1
      go_wp2_with fail
      refine hcon.out.mono ?_
      rintro e w4 ⟨rfl, hE4⟩
      rw [← hw3] at hE4
      have hB4 := hide (hB3.trans (hE4.mono hB3.size))
      clear hcon hw3 k11 s1 hE3 hE4
      go_wp2
      go_ret
      exact ⟨by rw [hfin.out]; rfl, hB4.out⟩
end Go.Proofs.Ytepgpiolhiidiaa
