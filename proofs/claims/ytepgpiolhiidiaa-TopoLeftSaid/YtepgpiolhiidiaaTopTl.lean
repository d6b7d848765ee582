/- TopoLeft, walked. -/
import Derived.Test.YtepgpiolhiidiaaTopMp
import Derived.Test.YtepgpiolhiidiaaGraF
import Derived.Test.YtepgpiolhiidiaaGraQ
namespace Go.Proofs.Ytepgpiolhiidiaa
open Go.RowKit Go.Shelf
attribute [local go_sem] Oper.semAt_some
theorem left_zero {nn : Nat} {a : List (Int × Int × Int)} : (leftN nn a).length = 0 ↔ (ordN nn a).length = nn := by
  constructor
  · intro h
    have h1 := List.eq_nil_of_length_eq_zero h
    unfold leftN at h1
    rw [List.filter_eq_nil_iff] at h1
    have h2 := nodup_len (nodes_nodup nn) (m := ordN nn a) (fun v hv => by have := h1 v hv; simpa using this)
    rw [nodes_len] at h2
    have h3 := ord_le (n := nn) (xs := a)
    omega
  · intro h
    have : leftN nn a = [] := by
      unfold leftN
      rw [List.filter_eq_nil_iff]
      intro v hv
      have := nodup_full (ord_nodup (n := nn) (xs := a)).1 ord_nodup.2 (by rw [h]; exact Nat.le_refl _) (mem_nodes.1 hv)
      simp [this]
    rw [this]; rfl
theorem leftN_len (nn : Nat) (a : List (Int × Int × Int)) : (leftN nn a).length ≤ nn := by
  have h1 := List.length_filter_le (fun v => !decide (v ∈ ordN nn a)) (nodes nn)
  rw [nodes_len] at h1
  exact h1
theorem mem_leftN {nn : Nat} {a : List (Int × Int × Int)} {v : Int} : v ∈ leftN nn a ↔ (0 ≤ v ∧ v < nn) ∧ v ∉ ordN nn a := by
  unfold leftN
  rw [List.mem_filter, mem_nodes]
  simp
theorem nodes_sorted (nn : Nat) : (nodes nn).Pairwise (· < ·) := by
  unfold nodes
  rw [List.pairwise_map]
  exact List.pairwise_lt_range.imp (fun h => by omega)
theorem leftN_nodup (nn : Nat) (a : List (Int × Int × Int)) : (leftN nn a).Nodup := (nodes_nodup nn).sublist List.filter_sublist
theorem leftN_sorted {nn : Nat} {a : List (Int × Int × Int)} : ∀ k x y, (leftN nn a)[k]? = some x → (leftN nn a)[k + 1]? = some y → ¬ y < x := by
  intro k x y hx hy
  have hp : (leftN nn a).Pairwise (· < ·) := (nodes_sorted nn).sublist List.filter_sublist
  obtain ⟨h1, rfl⟩ := List.getElem?_eq_some_iff.1 hx
  obtain ⟨h2, rfl⟩ := List.getElem?_eq_some_iff.1 hy
  have := List.pairwise_iff_getElem.1 hp k (k + 1) h1 h2 (by omega)
  omega
/-- to each node that is left an edge leads from one that is left -/
theorem leftN_from {nn : Nat} {a : List (Int × Int × Int)} (hj : Joins nn a) {v : Int} (hv : v ∈ leftN nn a) : ∃ e ∈ a, e.2.1 = v ∧ e.1 ∈ leftN nn a := by
  obtain ⟨hr, hn⟩ := mem_leftN.1 hv
  have h1 := next_none (ord_end (n := nn) (xs := a)) hr
  have h2 : ¬ (v ∉ ordN nn a ∧ ∀ e ∈ a, e.2.1 = v → e.1 ∈ ordN nn a) := fun h => by
    rw [freeV_iff.2 h] at h1
    cases h1
  have h3 : ¬ ∀ e ∈ a, e.2.1 = v → e.1 ∈ ordN nn a := fun h => h2 ⟨hn, h⟩
  apply Decidable.byContradiction
  intro hc
  refine h3 fun e he hev => ?_
  apply Decidable.byContradiction
  intro hne
  exact hc ⟨e, he, hev, mem_leftN.2 ⟨(hj e he).1.1, hne⟩⟩
set_option maxHeartbeats 1000000 in
theorem leftFun_any (mB b : Nat) (ks : List Int) (x y z : Int) (w : World) (X : Box w mB 45 (.map (some b))) (hK : IKeys w b ks) :
    Calls Try.prog 25 #[.agg #[.int .i64 x, .int .i64 y, .int .i64 z], .pointer (some ⟨mB, 0, none⟩)] w fun e w' => e = .returned (.bool (decide (x ∈ ks))) ∧ Ext w w' := by
  obtain ⟨q, hq⟩ : ∃ q, q = decide (x ∈ ks) := ⟨_, rfl⟩
  obtain ⟨w1, hw1⟩ : ∃ w1, w1 = w.alloc (.cells #[.int .i64 x, .int .i64 y, .int .i64 z] 50) := ⟨_, rfl⟩
  have hE : Ext w w1 := by rw [hw1]; exact (Below.refl _ _).alloc (Nat.le_refl _) _
  have XE : BoxN w1 w.heap.size 50 #[.int .i64 x, .int .i64 y, .int .i64 z] := by rw [hw1]; exact BoxN.new _ _ _
  have X2 := X.ext hE
  have hK2 := hide (hK.ext hE)
  obtain ⟨pe, hpe⟩ : ∃ q, q = w.heap.size := ⟨_, rfl⟩
  have k0 := X2.cell
  have s0 := X2.lt
  have e0 := XE.cell 0 (v := .int .i64 x) rfl
  have se := XE.lt
  rw [← hpe] at e0 se
  rw [← hq]
  replace hq := hide hq
  replace hE := hide hE
  clear X X2 XE hK
  go_enter Try.func25, Try.ntmps25
  go_upto_region 1 with fail
  rw [← hw1, ← hpe]
  clear hw1 hpe
  go_wp2_with (first | (at_lookup; refine wpList_lookI (k := 3) (e := 4) _ rfl (.tmp 4) (.tmp 6) rfl Try.underlying45 Try.underlying3 (zero_boolT _) rfl rfl hK2.out ?_) | fail)
  rw [← hq.out]
  go_wp2
  go_ret
  exact ⟨rfl, hE.out⟩
theorem enter_leftF (args : Array Value) (w : World) : (callFunc 25 args).run Try.prog w = .ok (.enter 25 args) w := enters_of Try.func25 (by kernel_rfl) rfl args w

set_option maxRecDepth 100000 in
set_option maxHeartbeats 8000000 in
theorem topoLeft_any (n : Int) (A : Option Addr) (m c : Nat) (xs : List (Int × Int × Int)) (w : World) (hm : m = xs.length) (hmc : m ≤ c) (h : Rd edgeE w.heap.size w A xs) :
    Calls Try.prog 6 #[.agg #[.int .i64 n, .slice A m c]] w fun e w' => e = .returned (.bool true) ∧ Ext w w' := by
  replace h := hide h
  replace hm := hide hm
  go_enter Try.func6, Try.ntmps6
  go_upto_region 1 with fail
  obtain ⟨w0, hw0⟩ : ∃ w0, w0 = w.alloc (.cells #[.int .i64 n, .slice A m c] 24) := ⟨_, rfl⟩
  rw [← hw0]
  have T : Ext w w0 := by rw [hw0]; exact (Below.refl _ _).alloc (Nat.le_refl _) _
  have X1 : Hid (BoxG w0 w.heap.size n A m c) := hide (by rw [hw0]; exact BoxN.new w _ _)
  clear hw0
  obtain ⟨pg, hpg⟩ : ∃ b, b = w.heap.size := ⟨_, rfl⟩
  rw [← hpg] at X1 ⊢
  clear hpg
  go_wp2_with fail
  refine (wakes_any _).mono ?_
  rintro e w1 ⟨rfl, hE⟩
  replace T := T.trans (hE.mono T.size)
  replace X1 := hide (X1.out.ext hE)
  clear hE
  have k10 := X1.out.cell 0 (v := .int .i64 n) rfl
  have k11 := X1.out.cell 1 (v := .slice A m c) rfl
  have s1 := X1.out.lt
  have hla : (xs.take 60).length ≤ 60 := by rw [List.length_take]; omega
  obtain ⟨a, ha⟩ : ∃ a, a = xs.take 60 := ⟨_, rfl⟩
  rw [← ha] at hla
  replace ha := hide ha
  go_wp2_with fail
  refine (fair_any n A m c xs _ (h.out.ext T) hm.out hmc).mono ?_
  rintro e w2 ⟨v, rfl, hO, hE⟩
  rw [← ha.out] at hO
  replace T := T.trans (hE.mono T.size)
  clear hE k10 k11 s1 X1
  obtain ⟨A3, c3, rfl, r3, hcc3, -⟩ := hO.rd
  obtain ⟨n3, e3⟩ : ∃ q, q = List.length a := ⟨_, rfl⟩
  rw [← e3] at hcc3 ⊢
  replace r3 := hide r3
  replace e3 := hide e3
  clear hO
  have hl3 : n3 ≤ 60 := by have := e3.out; omega
  have hl3b : n3 ≤ 1000000 := by omega
  go_upto_region 4 with fail
  obtain ⟨w4, hw⟩ : ∃ q, q = World.alloc w2 (.cells #[.int .i64 n, .slice A3 n3 c3] 24) := ⟨_, rfl⟩
  rw [← hw]
  have hE : Ext w2 w4 := by rw [hw]; exact (Below.refl _ _).alloc (Nat.le_refl _) _
  have X3 : Hid (BoxG w4 (World.heap w2).size n A3 n3 c3) := hide (by rw [hw]; exact BoxN.new _ _ _)
  clear hw
  obtain ⟨p3, hp⟩ : ∃ q, q = (World.heap w2).size := ⟨_, rfl⟩
  rw [← hp] at X3 ⊢
  clear hp
  replace r3 := hide (r3.out.ext hE)
  have hB := hide (T.trans (hE.mono T.size))
  clear hE T
  have T : Ext w4 w4 := Below.refl _ _
  obtain ⟨y2, hy2⟩ : ∃ q, q = ordB n a := ⟨_, rfl⟩
  obtain ⟨y4, hy4⟩ : ∃ q, q = chkG n a := ⟨_, rfl⟩
  obtain ⟨L, hL⟩ : ∃ q, q = leftL n a := ⟨_, rfl⟩
  replace hy2 := hide hy2
  replace hy4 := hide hy4
  replace hL := hide hL
  have k30 := (X3.out.ext T).cell 0 (v := .int .i64 n) rfl
  have k31 := (X3.out.ext T).cell 1 (v := .slice A3 n3 c3) rfl
  have s3 := (X3.out.ext T).lt
  go_wp2_with fail
  refine (left_any n A3 n3 c3 a _ (r3.out.ext T) e3.out hcc3 hl3b).mono ?_
  rintro e w5 ⟨v, rfl, hO, hE⟩
  rw [← hy4.out]
  rw [← hL.out] at hO
  replace T := T.trans (hE.mono T.size)
  obtain ⟨A6, c6, rfl, r6, -, -⟩ := hO.rd
  obtain ⟨l6, e6⟩ : ∃ q, q = L.length := ⟨_, rfl⟩
  rw [← e6] at hO ⊢
  replace r6 := hide r6
  replace e6 := hide e6
  clear hO hE k30 k31 s3
  have k30 := (X3.out.ext T).cell 0 (v := .int .i64 n) rfl
  have k31 := (X3.out.ext T).cell 1 (v := .slice A3 n3 c3) rfl
  have s3 := (X3.out.ext T).lt
  go_wp2_with fail
  refine (order_any n A3 n3 c3 a _ (r3.out.ext T) e3.out hcc3 hl3b).mono ?_
  rintro e w6 ⟨v, rfl, hO, hE⟩
  rw [← hy2.out, ← hy4.out]
  replace T := T.trans (hE.mono T.size)
  replace r6 := hide (r6.out.ext hE)
  obtain ⟨A7, c7, rfl, -, -, -⟩ := hO.rd
  generalize (ordL n a).length = l7 at *
  clear hO hE k30 k31 s3
  cases hr : rightG n a with
  | false =>
    have v4 : y4 = 150 := by rw [hy4.out, chkG_no hr]
    have v6 : l6 = 0 := by rw [e6.out, hL.out]; unfold leftL; rw [if_neg (by rw [hr]; simp)]; rfl
    have v4e := hy4.out
    rw [v4] at v4e
    subst v4 v6
    replace v4e := hide v4e
    replace hr := hide hr
    have k30 := (X3.out.ext T).cell 0 (v := .int .i64 n) rfl
    have k31 := (X3.out.ext T).cell 1 (v := .slice A3 n3 c3) rfl
    have s3 := (X3.out.ext T).lt
    go_wp2_with fail
    refine (check_any n A3 n3 c3 a _ (r3.out.ext T) e3.out hl3b).mono ?_
    rintro e w7 ⟨rfl, hE⟩
    rw [← v4e.out]
    have hfin := hide (hB.out.trans ((T.trans (hE.mono T.size)).mono hB.out.size))
    clear T hE k30 k31 s3
    go_wp2
    go_ret
    exact ⟨rfl, hfin.out⟩
  | true =>
    have v4 : y4 = 0 := by rw [hy4.out, chkG_yes hr]
    subst v4
    obtain ⟨nn, rfl⟩ : ∃ nn : Nat, n = nn := ⟨n.toNat, by have := ((rightG_iff n a).1 hr).1; omega⟩
    have hnn : nn ≤ 300 := by have := ((rightG_iff _ a).1 hr).2.1; omega
    have hj := hide (joins_of hr)
    have w1e : L = leftN nn a := by rw [hL.out]; unfold leftL; rw [if_pos hr, Int.toNat_natCast]
    have w2e : Hid (y2 = decide ((ordN nn a).length = nn)) := hide (by rw [hy2.out]; unfold ordB; rw [hr, Int.toNat_natCast, Bool.true_and])
    have hask : Hid (∀ v ∈ L, askE nn a [v] = 0 ∧ inL nn a v = a.filter (fun x => decide (x.2.1 = v))) := hide (fun v hv => by
      rw [w1e] at hv
      obtain ⟨h1, -⟩ := mem_leftN.1 hv
      have h2 : askE nn a [v] = 0 := by
        unfold askE
        rw [if_pos hr, if_pos]
        simp [nodeIn, h1.1, h1.2]
      exact ⟨h2, by unfold inL; rw [if_pos h2]⟩)
    have hfrm : Hid (∀ v ∈ L, (a.filter (fun x => decide (x.2.1 = v))).any (fun e => decide (e.1 ∈ L)) = true) := hide (fun v hv => by
      rw [w1e] at hv ⊢
      obtain ⟨e, he, h1, h2⟩ := leftN_from hj.out hv
      rw [List.any_eq_true]
      exact ⟨e, List.mem_filter.2 ⟨he, by simp [h1]⟩, by simp [h2]⟩)
    have hnd : Hid L.Nodup := hide (by rw [w1e]; exact leftN_nodup nn a)
    have hso : Hid (∀ k x y, L[k]? = some x → L[k + 1]? = some y → ¬ y < x) := hide (by rw [w1e]; exact leftN_sorted)
    have hl6 : l6 ≤ 300 := by rw [e6.out, w1e]; exact Nat.le_trans (leftN_len nn a) hnn
    have hlz : Hid (l6 = 0 ↔ y2 = true) := hide (by
      rw [e6.out, w1e, left_zero, w2e.out]
      simp)
    replace w1e := hide w1e
    replace hr := hide hr
    go_upto_region 9 with fail
    obtain ⟨w7, hw7⟩ : ∃ q, q = (w6.alloc (.map #[] 0)).alloc (.cells #[.map (some w6.heap.size)] 45) := ⟨_, rfl⟩
    have hE7 : Ext w6 w7 := by rw [hw7]; exact ((Below.refl _ _).alloc (Nat.le_refl _) _).alloc (by simp) _
    have hK7 : IKeys w7 w6.heap.size [] := by rw [hw7]; exact (ikeys_new w6).ext ((Below.refl _ _).alloc (Nat.le_refl _) _)
    have XM : Box w7 (w6.heap.size + 1) 45 (.map (some w6.heap.size)) := by
      rw [hw7]
      have := Box.new (w6.alloc (.map #[] 0)) 45 (.map (some w6.heap.size))
      rw [World.size_alloc] at this
      exact this
    rw [← hw7]
    clear hw7
    obtain ⟨mb, hmb⟩ : ∃ q, q = w6.heap.size := ⟨_, rfl⟩
    rw [← hmb] at hK7 XM ⊢
    obtain ⟨mB, hmB⟩ : ∃ q, q = mb + 1 := ⟨_, rfl⟩
    rw [← hmB] at XM ⊢
    have hmle : w6.heap.size ≤ mb := Nat.le_of_eq hmb.symm
    have hmne : mB ≠ mb := by omega
    clear hmb hmB
    have hK0 : Hid (IKeys w7 mb (L.take 0)) := hide hK7
    replace XM := hide XM
    have T6 := hide T
    clear T hK7
    go_wp2
    go_loopw [55] (fun q wr => ∃ k : Nat, k ≤ l6 ∧ q = .int .i64 k ∧ Hid (IKeys wr mb (L.take k)) ∧ Hid (Box wr mB 45 (.map (some mb))) ∧ Ext w6 wr) (fun q _ => l6 - (intOf q).toNat)
    case atStart => exact ⟨0, Nat.zero_le _, rfl, hK0, XM, hE7⟩
    case round =>
      clear hK0 XM hE7
      obtain ⟨k, hk, rfl, hK, XM, hE⟩ := hrel
      by_cases hlt : k < l6
      · have hlt' : (k : Int) < (l6 : Int) := by omega
        obtain ⟨b1, o1, rfl, ra⟩ := r6.out.at_ (i := k) (by rw [← e6.out]; exact hlt)
        obtain ⟨x, hx⟩ := get_some (xs := L) (i := k) (by rw [← e6.out]; exact hlt)
        have hx1 := (ra.below hE).int hx
        have hb1 : b1 < wr.heap.size := cell_lt hx1
        have hnk : Hid (x ∉ L.take k) := hide (nodup_take hnd.out hx)
        have hts : Hid (L.take (k + 1) = L.take k ++ [x]) := hide (take_snoc hx)
        have k9 := XM.out.cell
        have s9 := XM.out.lt
        replace hx := hide hx
        replace ra := hide ra
        go_wp2_with (first | (at_mapUpdate; refine wpList_putI (k := 3) (e := 4) _ rfl (.tmp 59) (.tmp 60) (.const (.bool true)) rfl Try.underlying45 Try.underlying3 rfl rfl rfl hK.out hnk.out hE hmle ?_; intro w8 hk8 hB8 hs8 hh8) | fail)
        have XM8 : Hid (Box w8 mB 45 (.map (some mb))) := hide ((hh8 mB hmne).trans XM.out)
        rw [← hts.out] at hk8
        replace hk8 := hide hk8
        clear hK XM hh8 hx1 k9 s9
        go_wp2
        refine ⟨?_, ?_⟩
        · first
            | exact ⟨k + 1, by omega, by first | omega | go_num, hk8, XM8, hB8⟩
            | ((repeat apply Exists.intro); exact ⟨⟨k + 1, by omega, by first | omega | go_num, hk8, XM8, hB8⟩, rfl⟩)
        · first | (simp [intOf, lenV]; omega) | (simp [intOf]; omega) | (simp [intOf]; done)
      · have hlt' : ¬ (k : Int) < (l6 : Int) := by omega
        have hkl : L.take k = L := List.take_of_length_le (by rw [← e6.out]; omega)
        rw [hkl] at hK
        obtain ⟨wm, hwm⟩ : ∃ q, q = wr := ⟨_, rfl⟩
        have T := T6.out.trans (hE.mono T6.out.size)
        rw [← hwm] at hK XM hE T ⊢
        have r6m := hide (r6.out.ext hE)
        have r3m := hide (r3.out.ext T)
        have X3m := hide (X3.out.ext T)
        have hBm := hide (hB.out.trans (T.mono hB.out.size))
        clear hkl hwm hE T
        go_wp2
        go_loopw [64] (fun q wx => ∃ k : Nat, k ≤ l6 ∧ q = .int .i64 k ∧ Ext wm wx) (fun q _ => l6 - (intOf q).toNat)
        case atStart => exact ⟨0, Nat.zero_le _, rfl, Below.refl _ _⟩
        case round =>
          obtain ⟨k, hk, rfl, T⟩ := hrel
          by_cases hlt : k < l6
          · have hlt' : (k : Int) < (l6 : Int) := by omega
            obtain ⟨b1, o1, rfl, ra⟩ := r6m.out.at_ (i := k) (by rw [← e6.out]; exact hlt)
            obtain ⟨x, hx⟩ := get_some (xs := L) (i := k) (by rw [← e6.out]; exact hlt)
            have hx1 := (ra.below T).int hx
            have hb1 : b1 < wr.heap.size := cell_lt hx1
            have hmem := List.mem_of_getElem? hx
            obtain ⟨g1, g2⟩ := hask.out x hmem
            have g3 := hfrm.out x hmem
            replace g1 := hide g1
            replace g2 := hide g2
            replace g3 := hide g3
            replace hmem := hide hmem
            replace hx := hide hx
            replace ra := hide ra
            have k30 := (X3m.out.ext T).cell 0 (v := .int .i64 nn) rfl
            have k31 := (X3m.out.ext T).cell 1 (v := .slice A3 n3 c3) rfl
            have s3 := (X3m.out.ext T).lt
            go_wp2_with fail
            refine (in_any nn x A3 n3 c3 a _ (r3m.out.ext T) e3.out hl3b).mono ?_
            rintro e w9 ⟨u, rfl, hO, hE9⟩
            rw [g1.out]
            rw [g2.out] at hO
            obtain ⟨A9, c9, rfl, r9, -, -⟩ := hO.rd
            obtain ⟨es, hes⟩ : ∃ es, es = a.filter (fun y => decide (y.2.1 = x)) := ⟨_, rfl⟩
            rw [← hes] at r9 hO g3 ⊢
            obtain ⟨l9, e9⟩ : ∃ q, q = es.length := ⟨_, rfl⟩
            have hl9 : l9 ≤ 1000000 := by
              have h1 := List.length_filter_le (fun y : Int × Int × Int => decide (y.2.1 = x)) a
              rw [e9, hes]
              have := e3.out
              omega
            rw [← e9] at hO ⊢
            replace T := T.trans (hE9.mono T.size)
            have hH : HoldP 25 #[.pointer (some ⟨mB, 0, none⟩)] es (fun e => decide (e.1 ∈ L)) w9 := ⟨enter_leftF, fun p q r W _ hW => leftFun_any mB mb L p q r W ((XM.out.ext T).ext hW) ((hK.out.ext T).ext hW)⟩
            have hcon := hide (containsE_any A9 l9 c9 es 25 #[.pointer (some ⟨mB, 0, none⟩)] (fun e => decide (e.1 ∈ L)) w9 r9 e9 hl9 hH)
            replace e9 := hide e9
            replace hes := hide hes
            clear hH hO r9 hE9 hx1 k30 k31 s3
            go_wp2_with fail
            refine hcon.out.mono ?_
            rintro e w10 ⟨rfl, hE10⟩
            rw [g3.out]
            replace T := T.trans (hE10.mono T.size)
            clear hcon hE10
            go_wp2
            refine ⟨?_, ?_⟩
            · first
                | exact ⟨k + 1, by omega, by first | omega | go_num, T⟩
                | ((repeat apply Exists.intro); exact ⟨⟨k + 1, by omega, by first | omega | go_num, T⟩, rfl⟩)
            · first | (simp [intOf, lenV]; omega) | (simp [intOf]; omega) | (simp [intOf]; done)
          · have hlt' : ¬ (k : Int) < (l6 : Int) := by omega
            have r6x := hide (r6m.out.ext T)
            have hBx := hide (hBm.out.trans (T.mono hBm.out.size))
            clear T
            cases y2 with
            | false =>
              have hz : l6 ≠ 0 := fun hc => by cases hlz.out.1 hc
              have hz' : ((l6 : Int) == 0) = false := by simp; omega
              replace hz := hide hz
              go_wp2_with fail
              refine (isSorted_any A6 l6 c6 L _ r6x.out e6.out (by omega) (fun k x y h1 h2 => by have := hso.out k x y h1 h2; omega)).mono ?_
              rintro e w11 ⟨rfl, hE⟩
              have hfin := hide (hBx.out.trans (hE.mono hBx.out.size))
              clear hE
              go_wp2
              go_ret
              exact ⟨rfl, hfin.out⟩
            | true =>
              have hz : l6 = 0 := hlz.out.2 rfl
              subst hz
              go_wp2_with fail
              refine (isSorted_any A6 0 c6 L _ r6x.out e6.out (by omega) (fun k x y h1 h2 => by have := hso.out k x y h1 h2; omega)).mono ?_
              rintro e w11 ⟨rfl, hE⟩
              have hfin := hide (hBx.out.trans (hE.mono hBx.out.size))
              clear hE
              go_wp2
              go_ret
              exact ⟨rfl, hfin.out⟩
end Go.Proofs.Ytepgpiolhiidiaa
