/- names.All: the table of names. -/
import Derived.Test.YtpfmbehhppbcnaaDoorNamA
import Derived.Deep.DeepCutAuto
import Derived.Deep.CutBlock
namespace Go.Proofs.YtpfmbehhppbcnaaDoor
open Go.RowKit

/-- one name more: the table, the numbers, the error (0: none) -/
def allStep (a : List ByteArray × List Int × Int) (s : ByteArray) : List ByteArray × List Int × Int :=
  if a.2.2 ≠ 0 then a else if wordB s = false then ([], [], 200) else if s ∉ a.1 ∧ a.1.length = 300 then ([], [], 6)
  else if s ∈ a.1 then (a.1, a.2.1 ++ [(at_ a.1 s : Int)], 0) else (a.1 ++ [s], a.2.1 ++ [(a.1.length : Int)], 0)
def allF (xs : List ByteArray) : List ByteArray × List Int × Int := xs.foldl allStep ([], [], 0)
theorem allF_snoc (xs : List ByteArray) (s : ByteArray) : allF (xs ++ [s]) = allStep (allF xs) s := by unfold allF; rw [List.foldl_append]; rfl
theorem allStep_err {a : List ByteArray × List Int × Int} (h : a.2.2 ≠ 0) (s : ByteArray) : allStep a s = a := by unfold allStep; rw [if_pos h]
theorem all_err (xs ys : List ByteArray) (h : (allF xs).2.2 ≠ 0) : allF (xs ++ ys) = allF xs := by
  induction ys using snocI with
  | h0 => rw [List.append_nil]
  | h1 l y ih => rw [← List.append_assoc, allF_snoc, ih, allStep_err h]
theorem all_inv (xs : List ByteArray) : (allF xs).1.Nodup ∧ (allF xs).1.length ≤ 300 ∧ (allF xs).2.1.length ≤ xs.length := by
  induction xs using snocI with
  | h0 => exact ⟨List.nodup_nil, Nat.zero_le _, Nat.zero_le _⟩
  | h1 l y ih =>
    obtain ⟨h1, h2, h3⟩ := ih
    rw [allF_snoc]
    unfold allStep
    repeat' split
    · refine ⟨h1, h2, ?_⟩; rw [List.length_append]; omega
    · exact ⟨List.nodup_nil, Nat.zero_le _, Nat.zero_le _⟩
    · exact ⟨List.nodup_nil, Nat.zero_le _, Nat.zero_le _⟩
    · refine ⟨h1, h2, ?_⟩; rw [List.length_append, List.length_append]; simp; omega
    · rename_i hf hm
      refine ⟨?_, ?_, ?_⟩
      · rw [List.nodup_append]
        exact ⟨h1, by simp, fun a ha b hb e => hm (by rw [List.mem_singleton] at hb; rw [← hb, ← e]; exact ha)⟩
      · have : (allF l).1.length ≠ 300 := fun e => hf ⟨hm, e⟩
        rw [List.length_append]; simp; omega
      · rw [List.length_append, List.length_append]; simp; omega
/-- the map of a table: each name's number -/
def im (ts : List ByteArray) : List (ByteArray × Value) := ts.mapIdx fun i x => (x, Value.int .i64 (i : Int))
theorem im_keys (ts : List ByteArray) : (im ts).map (·.1) = ts := by
  unfold im
  apply List.ext_getElem?
  intro i
  rw [List.getElem?_map, List.getElem?_mapIdx]
  cases ts[i]? <;> rfl
theorem im_snoc (ts : List ByteArray) (x : ByteArray) : im (ts ++ [x]) = im ts ++ [(x, .int .i64 (ts.length : Int))] := by unfold im; rw [List.mapIdx_append]; simp
theorem im_at {ts : List ByteArray} {j : Nat} {x : ByteArray} (h : ts[j]? = some x) : (im ts)[j]? = some (x, .int .i64 (j : Int)) := by unfold im; rw [List.getElem?_mapIdx, h]; rfl
theorem mapTyI : Tryd.prog.underlying 57 = some (.map 9 3) := by kernel_rfl
theorem zero_intN (w : World) : (zeroValue 3).run Tryd.prog w = .ok (.int .i64 0) w := by kernel_rfl
theorem at_mem {xs : List ByteArray} {s : ByteArray} (h : s ∈ xs) : xs[at_ xs s]? = some s := by
  obtain ⟨k, hk⟩ := List.mem_iff_getElem?.1 h
  unfold at_
  cases hf : xs.findIdx? fun y => decide (y = s) with
  | none => rw [List.findIdx?_eq_none_iff] at hf; have := hf s h; simp at this
  | some j =>
    rw [List.findIdx?_eq_some_iff_getElem] at hf
    obtain ⟨hj, h1, -⟩ := hf
    rw [Option.getD_some, List.getElem?_eq_getElem hj]
    simpa using h1
theorem results_cell_tmp2 {P : Program} {fn : Func} {p u v : Tmp} {ty : TypeId} (h : fn.results = #[.cell p ty, .tmp u, .tmp v]) (tmps : Array Value) (w : World) (g : Nat) (t : TypeId) (cs : Array Value) (fr : Nat × Nat) (d : TypeDesc)
    (hp : tmps.getD p undef = .pointer (some ⟨g, 0, none⟩)) (hg : w.heap[g]? = some (.cells cs t fr))
    (hu : P.underlying ty = some d) (hd : (match d with | .struct _ | .array _ _ => true | _ => false) = true) (hi : (P.info? ty).map (·.size) = some cs.size) :
    (results fn tmps).run P w = .ok (.tuple #[.agg cs, tmps.getD u undef, tmps.getD v undef]) w := by
  have hp' : tmps[p]?.getD undef = .pointer (some ⟨g, 0, none⟩) := by simpa using hp
  simp only [results, h]
  simp [Sem.run_bind, Result.andThen, hp', asAddr, run_loadVar_row w g t ty cs fr d hg hu hd hi]
theorem SMap.ne_row {α : Type} {E : El α} {e : TypeId} {base : Nat} {w : World} {b : Nat} {ms : List (ByteArray × Value)} {v : Value} {xs : List α} (h : SMap w b ms) (ho : Own E e base w v xs) : some b ≠ v.ownBlock := by
  intro he
  obtain ⟨c, hc⟩ := ho.block b he.symm
  obtain ⟨es, cl, h1, -⟩ := h
  rw [hc] at h1
  cases h1
theorem SMap.app {α : Type} {E : El α} {e : TypeId} {base : Nat} {w w' : World} {b : Nat} {ms : List (ByteArray × Value)} {v : Value} {xs : List α} (h : SMap w b ms) (ho : Own E e base w v xs) (hg : w.grownBy w' v.ownBlock) : SMap w' b ms := h.same (hg.block b h.lt (h.ne_row ho))
set_option maxRecDepth 100000 in
set_option maxHeartbeats 4000000 in
theorem all_any (A : Option Addr) (n c : Nat) (xs : List ByteArray) (w : World) (h : Rd strE w.heap.size w A xs) (hn : n = xs.length) (hl : n ≤ 1000000) (hm : ∀ x ∈ xs, x.size ≤ maxLen) (hU : LaidU w) :
    Calls Tryd.prog 10 #[.slice A n c] w fun e w' => ∃ v u, e = .returned (.tuple #[.agg #[v], u, .int .i64 (allF xs).2.2]) ∧ Own strE 9 w.heap.size w' v (allF xs).1 ∧ Own intE 3 w.heap.size w' u (allF xs).2.1 ∧ Ext w w' := by
  replace h := hide h
  replace hn := hide hn
  replace hU := hide hU
  go_enter Tryd.func10, Tryd.ntmps10
  go_upto_block 0 with fail
  obtain ⟨w0, hw0⟩ : ∃ x, x = ((w.alloc (.cells #[.slice none 0 0] 27)).alloc (.cells #[.slice none 0 0] 27)).alloc (.map #[] 0) := ⟨_, rfl⟩
  rw [← hw0]
  have hE0 : Ext w w0 := by rw [hw0]; exact (((Below.refl _ w).alloc (Nat.le_refl _) _).alloc (by simp) _).alloc (by simp; omega) _
  have Z2 : Hid (Box w0 w.heap.size 27 (.slice none 0 0)) := hide (by rw [hw0]; exact ((Box.new w _ _).alloc _).alloc _)
  have Z5 : Hid (Box w0 (w.heap.size + 1) 27 (.slice none 0 0)) := hide (by
    rw [hw0]
    have := Box.new (w.alloc (.cells #[.slice none 0 0] 27)) 27 (.slice none 0 0)
    rw [World.size_alloc] at this
    exact this.alloc _)
  have S0 : Hid (SMap w0 (w.heap.size + 1 + 1) []) := hide (by
    rw [hw0]
    have := smap_new ((w.alloc (.cells #[.slice none 0 0] 27)).alloc (.cells #[.slice none 0 0] 27))
    rw [World.size_alloc, World.size_alloc] at this
    exact this)
  clear hw0
  obtain ⟨b2, hb2⟩ : ∃ x, x = w.heap.size := ⟨_, rfl⟩
  rw [← hb2] at Z2 Z5 S0 ⊢
  obtain ⟨b5, hb5⟩ : ∃ x, x = b2 + 1 := ⟨_, rfl⟩
  rw [← hb5] at Z5 S0 ⊢
  obtain ⟨m, hm5⟩ : ∃ x, x = b5 + 1 := ⟨_, rfl⟩
  rw [← hm5] at S0 ⊢
  have hle2 : w.heap.size ≤ b2 := by omega
  have hle5 : w.heap.size ≤ b5 := by omega
  have hlem : w.heap.size ≤ m := by omega
  have h25 : b2 ≠ b5 := by omega
  have h2m : b2 ≠ m := by omega
  have h5m : b5 ≠ m := by omega
  clear hb2 hb5 hm5
  go_wp2
  go_loopw [15, 6] (fun i u wr => ∃ (k : Nat) (v6 v5 : Value), k ≤ n ∧ i = .int .i64 k ∧ v6 = u ∧ Hid ((allF (xs.take k)).2.2 = 0) ∧ Hid (Own strE 9 w.heap.size wr v5 (allF (xs.take k)).1) ∧ Hid (Own intE 3 w.heap.size wr v6 (allF (xs.take k)).2.1) ∧ Hid (SMap wr m (im (allF (xs.take k)).1)) ∧ Hid (Box wr b5 27 v5) ∧ Hid (Box wr b2 27 (.slice none 0 0)) ∧ Ext w wr) (fun i _ _ => n - (intOf i).toNat)
  case atStart => exact ⟨0, _, .slice none 0 0, Nat.zero_le _, rfl, rfl, hide rfl, hide Own.nil_, hide Own.nil_, S0, Z5, Z2, hE0⟩
  case round =>
    clear S0 Z5 Z2 hE0
    obtain ⟨k, v6, v5, hk, rfl, rfl, he0, O5, O6, hS, X5, X2, hE⟩ := hrel
    obtain ⟨hcc, hff⟩ := bcell hE
    have hsz := hE.size
    obtain ⟨A5, c5, rfl, -, -, -⟩ := O5.out.rd
    obtain ⟨A6, c6, rfl, -, -, -⟩ := O6.out.rd
    obtain ⟨ts, hts⟩ : ∃ ts, ts = (allF (xs.take k)).1 := ⟨_, rfl⟩
    obtain ⟨os, hos⟩ : ∃ os, os = (allF (xs.take k)).2.1 := ⟨_, rfl⟩
    have hall : allF (xs.take k) = (ts, os, 0) := by rw [hts, hos, ← he0.out]
    obtain ⟨hi1, hi2, hi3⟩ := all_inv (xs.take k)
    rw [hall] at hi1 hi2 hi3
    rw [List.length_take] at hi3
    simp only at hi1 hi2 hi3
    rw [← hts] at O5 hS X5
    rw [← hos] at O6 ⊢
    obtain ⟨nt, hnt⟩ : ∃ x, x = ts.length := ⟨_, rfl⟩
    obtain ⟨no, hno⟩ : ∃ x, x = os.length := ⟨_, rfl⟩
    rw [← hnt] at O5 X5 hi2
    rw [← hno] at O6 hi3 ⊢
    replace hnt := hide hnt
    replace hno := hide hno
    replace hall := hide hall
    replace hi1 := hide hi1
    clear hts hos he0
    by_cases hlt : k < n
    · have hlt' : (k : Int) < (n : Int) := by omega
      obtain ⟨bk, off, rfl, ra⟩ := h.out.at_ (i := k) (by rw [← hn.out]; exact hlt)
      have hbk := ra.1
      obtain ⟨x, hx⟩ := get_some (xs := xs) (i := k) (by rw [← hn.out]; exact hlt)
      have hxc := (ra.below hE).str hx
      have hbr : bk < wr.heap.size := Nat.lt_of_lt_of_le ra.1 hsz
      have htk : Hid (allF (xs.take (k + 1)) = allStep (ts, os, 0) x) := hide (by rw [take_snoc hx, allF_snoc, hall.out])
      have hxs : Hid (xs = xs.take (k + 1) ++ xs.drop (k + 1)) := hide (List.take_append_drop _ _).symm
      have hmx := hm x (List.mem_of_getElem? hx)
      replace hx := hide hx
      replace ra := hide ra
      clear hcc hff
      by_cases hxt : x ∈ ts
      · have hj := at_mem hxt
        obtain ⟨j, hj2⟩ : ∃ j, j = at_ ts x := ⟨_, rfl⟩
        rw [← hj2] at hj
        have hl2 := hS.out.look_at (P := Tryd.prog) mapTyI strTy (by rw [im_keys]; exact hi1.out) (im_at hj) true
        simp only [if_true] at hl2
        replace hj := hide hj
        replace hj2 := hide hj2
        go_wp2_with (first | (at_lookup; refine wpList_look rfl (.tmp 20) (.tmp 21) rfl rfl rfl hl2 ?_) | fail)
        refine (checkN_any x _ hmx (hU.out.ext hE)).mono ?_
        rintro e w1 ⟨rfl, hE1⟩
        replace O5 := hide (O5.out.ext hE1)
        replace O6 := hide (O6.out.ext hE1)
        replace hS := hide (hS.out.ext hE1)
        replace X5 := X5.out.ext hE1
        replace X2 := X2.out.ext hE1
        replace hE := hE.trans (hE1.mono hE.size)
        clear hl2 hxc hbr hE1 hsz
        cases hwx : wordB x with
        | false =>
          rw [chkN_not hwx]
          have hst : allF (xs.take (k + 1)) = ([], [], 200) := by rw [htk.out]; unfold allStep; rw [if_neg (by simp), if_pos hwx]
          have f2 := X2.free
          have c2 := X2.cell
          have s2 := X2.lt
          have Y2 := X2.set (.slice none 0 0)
          have hv : Hid (allF xs = ([], [], 200)) := hide (by
            have hx2 := hxs.out
            rw [hx2, all_err _ _ (by rw [hst]; decide), hst])
          replace hst := hide hst
          go_wp2
          refine bodyPost_ret (results_cell_tmp2 rfl _ _ b2 27 _ _ _ rfl Y2 Tryd.underlying27 rfl (by kernel_rfl)) rfl ?_
          refine ⟨.slice none 0 0, .slice none 0 0, by rw [hv.out]; rfl, by rw [hv.out]; exact Own.nil_, by rw [hv.out]; exact Own.nil_, hE.setCell (p := ⟨b2, 0, none⟩) hle2 _⟩
        | true =>
          rw [chkN_word hwx]
          have hst : Hid (allF (xs.take (k + 1)) = (ts, os ++ [(j : Int)], 0)) := hide (by rw [htk.out, hj2.out]; unfold allStep; rw [if_neg (by simp), if_neg (by rw [hwx]; decide), if_neg (fun hc => hc.1 hxt), if_pos hxt])
          replace hwx := hide hwx
          replace hxt := hide hxt
          have hon := own_new (base := 0) (e := 3) intE w1 (j : Int) (World.heap w1).size rfl (Nat.zero_le _)
          obtain ⟨A4, c4, hv1, hr4, -, -⟩ := hon.rd
          injection hv1 with hv2 hv3 hv4
          subst hv2
          clear hon hv3 hv4
          replace hr4 := hide hr4
          have Oa := hide (O6.out.alloc (.cells (intE.cs (j : Int)).toArray 3))
          have O5a := hide (O5.out.alloc (.cells (intE.cs (j : Int)).toArray 3))
          have X5a := hide (X5.alloc (.cells (intE.cs (j : Int)).toArray 3))
          have X2a := hide (X2.alloc (.cells (intE.cs (j : Int)).toArray 3))
          have hSa := hide (hS.out.ext ((Below.refl _ _).alloc (Nat.le_refl _) (.cells (intE.cs (j : Int)).toArray 3)))
          have hsz := hE.size
          have hEa := hide (hE.alloc hsz (.cells (intE.cs (j : Int)).toArray 3))
          clear O6 O5 X5 X2 hS hE
          go_wp2_with (at_builtin; refine wpList_app tyInt rfl (.tmp 55) (.tmp 57) rfl rfl Oa.out rfl hr4.out rfl (by have := hno.out; simp at this ⊢; omega) (by simp; omega) ?_)
          intro v' w9 hown hg hne hnil
          have O5b := hide (O5a.out.app Oa.out hg (by decide))
          have X5b := hide (X5a.out.app Oa.out hg (by decide))
          have X2b := hide (X2a.out.app Oa.out hg (by decide))
          have hSb := hide (hSa.out.app Oa.out hg)
          have hEb : Ext w w9 := Own.below Oa.out hEa.out hg (by simp; omega)
          have hownb := hide hown
          clear hown hg hne hnil hr4 Oa O5a X5a X2a hSa hEa hsz
          obtain ⟨A8, c8, hv8, -, -, -⟩ := hownb.out.rd
          replace hv8 := hide hv8
          go_wp2
          refine ⟨?_, ?_⟩
          · first
              | exact ⟨k + 1, _, _, by omega, by go_num, rfl, hide (by rw [hst.out]), hide (by rw [hst.out]; exact O5b.out), hide (by rw [hst.out]; exact hownb.out), hide (by rw [hst.out]; exact hSb.out), X5b, X2b, hEb⟩
              | ((repeat apply Exists.intro); exact ⟨⟨k + 1, _, _, by omega, by go_num, rfl, hide (by rw [hst.out]), hide (by rw [hst.out]; exact O5b.out), hide (by rw [hst.out]; exact hownb.out), hide (by rw [hst.out]; exact hSb.out), X5b, X2b, hEb⟩, rfl⟩)
          · first | (simp [intOf, lenV]; omega) | (simp [intOf]; omega) | (simp [intOf]; done)
      · have hx' : x ∉ (im ts).map (·.1) := by rw [im_keys]; exact hxt
        have hl2 := hS.out.look_new (P := Tryd.prog) mapTyI strTy (zero_intN wr) hx' true
        simp only [if_true] at hl2
        go_wp2_with (first | (at_lookup; refine wpList_look rfl (.tmp 20) (.tmp 21) rfl rfl rfl hl2 ?_) | fail)
        refine (checkN_any x _ hmx (hU.out.ext hE)).mono ?_
        rintro e w1 ⟨rfl, hE1⟩
        replace O5 := hide (O5.out.ext hE1)
        replace O6 := hide (O6.out.ext hE1)
        replace hS := hide (hS.out.ext hE1)
        replace X5 := X5.out.ext hE1
        replace X2 := X2.out.ext hE1
        replace hE := hE.trans (hE1.mono hE.size)
        clear hl2 hxc hbr hE1 hsz
        cases hwx : wordB x with
        | false =>
          rw [chkN_not hwx]
          have hst : allF (xs.take (k + 1)) = ([], [], 200) := by rw [htk.out]; unfold allStep; rw [if_neg (by simp), if_pos hwx]
          have f2 := X2.free
          have c2 := X2.cell
          have s2 := X2.lt
          have Y2 := X2.set (.slice none 0 0)
          have hv : Hid (allF xs = ([], [], 200)) := hide (by
            have hx2 := hxs.out
            rw [hx2, all_err _ _ (by rw [hst]; decide), hst])
          replace hst := hide hst
          go_wp2
          refine bodyPost_ret (results_cell_tmp2 rfl _ _ b2 27 _ _ _ rfl Y2 Tryd.underlying27 rfl (by kernel_rfl)) rfl ?_
          refine ⟨.slice none 0 0, .slice none 0 0, by rw [hv.out]; rfl, by rw [hv.out]; exact Own.nil_, by rw [hv.out]; exact Own.nil_, hE.setCell (p := ⟨b2, 0, none⟩) hle2 _⟩
        | true =>
          rw [chkN_word hwx]
          have c5' := X5.cell
          have s5' := X5.lt
          by_cases h300 : nt = 300
          · have hst : allF (xs.take (k + 1)) = ([], [], 6) := by rw [htk.out]; unfold allStep; rw [if_neg (by simp), if_neg (by rw [hwx]; decide), if_pos ⟨hxt, by rw [← hnt.out]; exact h300⟩]
            have g300 : ((nt : Int) == 300) = true := by rw [beq_iff_eq]; omega
            replace hwx := hide hwx
            replace hxt := hide hxt
            replace hx' := hide hx'
            have f2 := X2.free
            have c2 := X2.cell
            have s2 := X2.lt
            have Y2 := X2.set (.slice none 0 0)
            have hv : Hid (allF xs = ([], [], 6)) := hide (by
              have hx2 := hxs.out
              rw [hx2, all_err _ _ (by rw [hst]; decide), hst])
            replace hst := hide hst; subst h300
            go_wp2
            refine bodyPost_ret (results_cell_tmp2 rfl _ _ b2 27 _ _ _ rfl Y2 Tryd.underlying27 rfl (by kernel_rfl)) rfl ?_
            refine ⟨.slice none 0 0, .slice none 0 0, by rw [hv.out]; rfl, by rw [hv.out]; exact Own.nil_, by rw [hv.out]; exact Own.nil_, hE.setCell (p := ⟨b2, 0, none⟩) hle2 _⟩
          · have hst : Hid (allF (xs.take (k + 1)) = (ts ++ [x], os ++ [(nt : Int)], 0)) := hide (by rw [htk.out, hnt.out]; unfold allStep; rw [if_neg (by simp), if_neg (by rw [hwx]; decide), if_neg (fun hc => h300 (by rw [hnt.out]; exact hc.2)), if_neg hxt])
            have g300 : ((nt : Int) == 300) = false := by rw [beq_eq_false_iff_ne]; omega
            have g301 : ¬ (nt : Int) = 300 := by omega
            obtain ⟨w2, hp, hS2, hg2, hz2⟩ := hS.out.put_new (P := Tryd.prog) mapTyI strTy (.int .i64 (nt : Int)) hx'
            have hne5 := hS.out.ne_row O5.out
            have hne6 := hS.out.ne_row O6.out
            have O5' := hide (O5.out.kept hg2 (.inr (Ne.symm hne5)))
            have O6' := hide (O6.out.kept hg2 (.inr (Ne.symm hne6)))
            have X5' := X5.grown hg2 (fun e => h5m (by injection e))
            have X2' := X2.grown hg2 (fun e => h2m (by injection e))
            have hE2 : Ext w w2 := hE.grown hg2 hE.size (fun q hq => by injection hq with hq; omega)
            have hS2' : Hid (SMap w2 m (im (ts ++ [x]))) := hide (by rw [im_snoc, ← hnt.out]; exact hS2)
            replace hwx := hide hwx
            replace hxt := hide hxt
            replace hx' := hide hx'
            replace h300 := hide h300
            clear hne5 hne6 O5 O6 hS X2 hE hS2 hg2 hz2
            go_upto_region 15 with (first | (at_mapUpdate; refine wpList_put rfl (.tmp 46) (.tmp 47) (.tmp 48) rfl rfl rfl hp ?_) | fail)
            clear X5 c5' s5' hp
            have hon := own_new (base := 0) (e := 9) strE w2 x w2.heap.size rfl (Nat.zero_le _)
            obtain ⟨A4, c4, hv1, hr4, -, -⟩ := hon.rd
            injection hv1 with hv2 hv3 hv4
            subst hv2
            clear hon hv3 hv4
            replace hr4 := hide hr4
            have c5' := X5'.cell
            have s5' := X5'.lt
            have O5a := hide (O5'.out.alloc (.cells (strE.cs x).toArray 9))
            have O6a := hide (O6'.out.alloc (.cells (strE.cs x).toArray 9))
            have X5a := hide (X5'.alloc (.cells (strE.cs x).toArray 9))
            have X2a := hide (X2'.alloc (.cells (strE.cs x).toArray 9))
            have hSa := hide (hS2'.out.ext ((Below.refl _ _).alloc (Nat.le_refl _) (.cells (strE.cs x).toArray 9)))
            have hsz := hE2.size
            have hEa := hide (hE2.alloc hsz (.cells (strE.cs x).toArray 9))
            clear O5' O6' X2' hS2' hE2 X5'
            go_upto_region 16 with (first | (at_builtin; refine wpList_app tyStr rfl (.tmp 50) (.tmp 52) rfl rfl O5a.out rfl hr4.out rfl (by have := hnt.out; simp at this ⊢; omega) (by simp; omega) ?_; intro v7 w3 hown hg hne hnil; obtain ⟨A7, c7, rfl, -, -, -⟩ := hown.rd; have X5b := X5a.out.app O5a.out hg (by decide); have c5b := X5b.cell; have f5b := X5b.free; have s5b := X5b.lt; replace hown := hide hown; replace hg := hide hg) | fail)
            have X2b := X2a.out.app O5a.out hg.out (by decide)
            have O6b := hide (O6a.out.app O5a.out hg.out (by decide))
            have hSb := hSa.out.app O5a.out hg.out
            have hEb : Ext w w3 := Own.below O5a.out hEa.out hg.out (by simp; omega)
            have hl7 : (ts ++ [x]).length = nt + 1 := by rw [List.length_append, ← hnt.out]; rfl
            rw [hl7] at hown
            try rw [hl7]
            try rw [← hnt.out]
            obtain ⟨w4, hw4⟩ : ∃ w4, w4 = w3.setCell ⟨b5, 0, none⟩ (.slice A7 (nt + 1) c7) := ⟨_, rfl⟩
            rw [← hw4]
            have O5 : Hid (Own strE 9 w.heap.size w4 (.slice A7 (nt + 1) c7) (ts ++ [x])) := hide (by rw [hw4]; exact hown.out.set X5b (by decide) _)
            have O6 : Hid (Own intE 3 w.heap.size w4 (.slice A6 no c6) os) := hide (by rw [hw4]; exact O6b.out.set X5b (by decide) _)
            have X5 : Box w4 b5 27 (.slice A7 (nt + 1) c7) := by rw [hw4]; exact X5b.set _
            have X2 : Box w4 b2 27 (.slice none 0 0) := by rw [hw4]; exact X2b.far (p := ⟨b5, 0, none⟩) h25 _
            have hS : Hid (SMap w4 m (im (ts ++ [x]))) := hide (by rw [hw4]; exact hSb.same (Below.heap_setCell w3 ⟨b5, 0, none⟩ _ m (fun e => h5m e.symm)))
            have hE : Ext w w4 := by rw [hw4]; exact hEb.setCell (p := ⟨b5, 0, none⟩) hle5 _
            clear hw4 hown hg hne hnil X5b c5b f5b s5b X2b O6b hSb hEb hl7 c5' s5' O5a O6a X5a X2a hSa hEa hsz hr4
            have hon := own_new (base := 0) (e := 3) intE w4 (nt : Int) (World.heap w4).size rfl (Nat.zero_le _)
            obtain ⟨A4, c4, hv1, hr4, -, -⟩ := hon.rd
            injection hv1 with hv2 hv3 hv4
            subst hv2
            clear hon hv3 hv4
            replace hr4 := hide hr4
            have Oa := hide (O6.out.alloc (.cells (intE.cs (nt : Int)).toArray 3))
            have O5a := hide (O5.out.alloc (.cells (intE.cs (nt : Int)).toArray 3))
            have X5a := hide (X5.alloc (.cells (intE.cs (nt : Int)).toArray 3))
            have X2a := hide (X2.alloc (.cells (intE.cs (nt : Int)).toArray 3))
            have hSa := hide (hS.out.ext ((Below.refl _ _).alloc (Nat.le_refl _) (.cells (intE.cs (nt : Int)).toArray 3)))
            have hsz := hE.size
            have hEa := hide (hE.alloc hsz (.cells (intE.cs (nt : Int)).toArray 3))
            clear O6 O5 X5 X2 hS hE
            go_wp2_with (at_builtin; refine wpList_app tyInt rfl (.tmp 55) (.tmp 57) rfl rfl Oa.out rfl hr4.out rfl (by have := hno.out; simp at this ⊢; omega) (by simp; omega) ?_)
            intro v' w9 hown hg hne hnil
            have O5b := hide (O5a.out.app Oa.out hg (by decide))
            have X5b := hide (X5a.out.app Oa.out hg (by decide))
            have X2b := hide (X2a.out.app Oa.out hg (by decide))
            have hSb := hide (hSa.out.app Oa.out hg)
            have hEb : Ext w w9 := Own.below Oa.out hEa.out hg (by simp; omega)
            have hownb := hide hown
            clear hown hg hne hnil hr4 Oa O5a X5a X2a hSa hEa hsz
            obtain ⟨A8, c8, hv8, -, -, -⟩ := hownb.out.rd
            replace hv8 := hide hv8
            go_wp2
            refine ⟨?_, ?_⟩
            · first
                | exact ⟨k + 1, _, _, by omega, by go_num, rfl, hide (by rw [hst.out]), hide (by rw [hst.out]; exact O5b.out), hide (by rw [hst.out]; exact hownb.out), hide (by rw [hst.out]; exact hSb.out), X5b, X2b, hEb⟩
                | ((repeat apply Exists.intro); exact ⟨⟨k + 1, _, _, by omega, by go_num, rfl, hide (by rw [hst.out]), hide (by rw [hst.out]; exact O5b.out), hide (by rw [hst.out]; exact hownb.out), hide (by rw [hst.out]; exact hSb.out), X5b, X2b, hEb⟩, rfl⟩)
            · first | (simp [intOf, lenV]; omega) | (simp [intOf]; omega) | (simp [intOf]; done)
    · have hlt' : ¬ (k : Int) < (n : Int) := by omega
      have hkn : k = n := by omega
      have hv : Hid (allF xs = (ts, os, 0)) := hide (by have h1 := hall.out; rw [hkn, hn.out, List.take_length] at h1; exact h1)
      have f2 := X2.out.free
      have c2 := X2.out.cell
      have s2 := X2.out.lt
      have c5' := X5.out.cell
      have s5' := X5.out.lt
      have Y2 := X2.out.set (.slice A5 nt c5)
      have O5b := O5.out.set X2.out (by decide) (.slice A5 nt c5)
      have O6b := O6.out.set X2.out (by decide) (.slice A5 nt c5)
      have hEb := hE.setCell (p := ⟨b2, 0, none⟩) hle2 (.slice A5 nt c5)
      clear hkn hcc hff
      replace Y2 := hide Y2
      replace O5b := hide O5b
      replace O6b := hide O6b
      replace hEb := hide hEb
      go_wp2
      refine bodyPost_ret (results_cell_tmp2 rfl _ _ b2 27 _ _ _ rfl Y2.out Tryd.underlying27 rfl (by kernel_rfl)) rfl ?_
      exact ⟨_, _, by rw [hv.out]; rfl, by rw [hv.out]; exact O5b.out, by rw [hv.out]; exact O6b.out, hEb.out⟩
end Go.Proofs.YtpfmbehhppbcnaaDoor
