/- topo.taken$1, walked. -/
import Derived.Test.YtepgpiolhiidiaaTopE
import Derived.Scope
import Derived.LoopIn
import Derived.Laws.EntriesVeiled
import Derived.Deep.LoopGhost
namespace Go.Proofs.Ytepgpiolhiidiaa
open Go.RowKit Go.Shelf
attribute [local go_sem] Oper.semAt_some

theorem HoldT.more {B B' : Nat} {J : StT → World → Prop} (h : HoldT B J) (hB : B ≤ B') : HoldT B' J := fun T O O' A C hJ hs ho ho' => h T O O' A C hJ hs (fun k hk => ⟨Nat.le_trans hB (ho k hk).1, (ho k hk).2⟩) ho'
theorem enter_free (args : Array Value) (w : World) : (callFunc 57 args).run Try.prog w = .ok (.enter 57 args) w := enters_of Try.func57 (by kernel_rfl) rfl args w
theorem enter_take (args : Array Value) (w : World) : (callFunc 56 args).run Try.prog w = .ok (.enter 56 args) w := enters_of Try.func56 (by kernel_rfl) rfl args w
def cq (xs : List (Int × Int × Int)) (T : List Int) (q : List (Int × Int × Int)) (j : Nat) : Int := (cntQ xs T q (j : Int) : Int)
theorem cq_nil (nn : Nat) : List.replicate nn (0 : Int) = rowF nn (cq [] [] []) := by rw [rowF_zero]; rfl
theorem nodup_take {α : Type} {l : List α} (h : l.Nodup) {k : Nat} {x : α} (hx : l[k]? = some x) : x ∉ l.take k := by
  intro hc
  rw [← List.take_append_drop k l, List.nodup_append] at h
  refine h.2.2 x hc x ?_ rfl
  have : (l.drop k)[0]? = some x := by rw [List.getElem?_drop]; simpa using hx
  exact List.mem_of_getElem? this
/-- d more at most are to be taken -/
def MR (W0 : World) (n₀ B0 gB nn : Nat) (A : Option Addr) (m c : Nat) (xs : List (Int × Int × Int)) (sR cs cB cR hB pB : Nat) (J : StT → World → Prop) (d : Nat) (wr : World) : Prop :=
  ∃ (j : Nat) (v : Value) (H : List Int), d + j = nn ∧ (itN nn xs j).length = j ∧ HInv H (freeN nn xs (itN nn xs j)) ∧ TW W0 n₀ B0 gB nn A m c xs sR cs cB cR hB pB J (itN nn xs j) (cq xs (itN nn xs j) []) v H wr
set_option maxRecDepth 100000 in
set_option maxHeartbeats 8000000 in
theorem taken1_in (l gB n₀ N nn : Nat) (A : Option Addr) (m c : Nat) (xs : List (Int × Int × Int)) (hm : m = xs.length) (hr : rightG nn xs = true)
    (J : StT → World → Prop) (W : World) (hn0 : n₀ ≤ W.heap.size) (hJ : HoldT W.heap.size J)
    (hY : ∀ s x W1, J s W1 → (s.1 ++ [x] <+: ordN nn xs ∧ ∀ k ∈ s.2, k < W1.heap.size) → YieldAt Fence.wide (N - 1) Try.prog l (encT x) W1 fun e W' => e = .returned (.bool true) ∧ J (stT s x) W' ∧ KpT n₀ gB s W1 W')
    (hg : BoxN W gB 24 #[.int .i64 nn, .slice A m c]) (hmc : m ≤ c) (hrd : Rd edgeE n₀ W A xs) (h0 : J ([], []) W) :
    CallsIn Fence.wide N Try.prog 54 #[.func (.yield l) #[] #[], .pointer (some ⟨gB, 0, none⟩)] W fun e W' => (∃ v, e = .returned v) ∧ ∃ s : StT, s.1 = ordN nn xs ∧ J s W' := by
  obtain ⟨r1, r2, r3, r4, r5⟩ := (rightG_iff _ xs).1 hr
  have hnn : nn ≤ 300 := by omega
  have hml : m ≤ 40000 := by omega
  have hfr : Hid (∀ x ∈ xs, (0 ≤ x.1 ∧ x.1 < nn) ∧ 0 ≤ x.2.1 ∧ x.2.1 < nn) := hide (fun x hx => by have := (rightE_iff _ x).1 (r4 x hx); omega)
  have hnd : Hid xs.Nodup := hide (strict_nodup r5)
  have hjo : Hid (Joins nn xs) := hide (joins_of hr)
  have hst := hide (starts_any nn A m c xs W (hrd.more hn0) hm (by omega))
  replace hr := hide hr
  replace hm := hide hm
  replace hrd := hide hrd
  replace r5 := hide r5
  clear r1 r2 r3 r4
  refine callsIn_of_wp Try.func54 rfl trivial ?_ rfl
  simp only [Try.ntmps54, List.size_toArray, List.length_cons, List.length_nil, Nat.reduceAdd, Nat.reduceSub, Array.replicate_succ, Array.replicate_zero, List.push_toArray, List.append_toArray, List.nil_append, List.cons_append]
  refine wpIn_wide.2 ?_
  have k0 := hg.cell 0 (v := .int .i64 (nn : Int)) rfl
  have k1 := hg.cell 1 (v := .slice A m c) rfl
  have sg := hg.lt
  go_wp2_with fail
  refine hst.out.mono ?_
  rintro e w1 ⟨vs, rfl, hO, hE⟩
  have hO1 : Own intE 3 W.heap.size w1 vs (starts xs (nn + 1)) := by
    have h1 := hO
    unfold startL at h1
    rw [if_pos hr.out] at h1
    simpa using h1
  rw [chkG_yes hr.out]
  obtain ⟨As, cs, rfl, hRs, -, -⟩ := hO1.rd
  have hls : (starts xs (nn + 1)).length = nn + 1 := by rw [starts_rowF, rowF_len]
  rw [hls] at hO1 ⊢
  obtain ⟨sR, hAs, -, -⟩ := hO1.at1 (i := 0) (by omega)
  subst hAs
  have hsR := (hO1.lt sR rfl)
  replace hO1 := hide hO1
  clear hO hst hRs hls k0 k1 sg
  have hg1 : BoxN w1 gB 24 #[.int .i64 nn, .slice A m c] := hg.ext hE
  have k0 := hg1.cell 0 (v := .int .i64 (nn : Int)) rfl
  have k1 := hg1.cell 1 (v := .slice A m c) rfl
  have sg := hg1.lt
  go_wp2_with (at_make; refine wpList_make (base := W.heap.size) tyInt rfl _ _ rfl (n := nn) zero_intT rfl rfl rfl rfl (by omega) hE.size ?_)
  intro w2 hown hgr
  have hE2 := grown_none hgr
  obtain ⟨cR, hcR⟩ : ∃ q, q = w1.heap.size := ⟨_, rfl⟩
  have hcl : cR < w2.heap.size := by rw [hcR]; exact (hown.lt w1.heap.size rfl).2
  have hown1 : Hid (Own intE 3 W.heap.size w2 (.slice (some ⟨cR, 0, none⟩) nn nn) (rowF nn (cq [] [] []))) := hide (by rw [hcR, ← cq_nil]; exact hown)
  rw [← hcR]
  have hsc : sR ≠ cR := by omega
  replace hO1 := hide (hO1.out.ext hE2)
  have hE02 : Ext W w2 := hE.trans (hE2.mono hE.size)
  have hsw2 : sR < w2.heap.size := Nat.lt_of_lt_of_le hsR.2 hE2.size
  clear hown hgr hcR k0 k1 sg hg1 hE2
  replace hJ := hide hJ
  replace hY := hide hY
  go_upto_region 2 with fail
  obtain ⟨w3, hw3⟩ : ∃ q, q = w2.alloc (.cells #[.slice (some ⟨cR, 0, none⟩) nn nn] 28) := ⟨_, rfl⟩
  rw [← hw3]
  have hE3 : Ext w2 w3 := by rw [hw3]; exact (Below.refl _ _).alloc (Nat.le_refl _) _
  have X5 : Box w3 w2.heap.size 28 (.slice (some ⟨cR, 0, none⟩) nn nn) := by rw [hw3]; exact Box.new _ _ _
  replace hown1 := hide (hown1.out.ext hE3)
  replace hO1 := hide (hO1.out.ext hE3)
  have hE03 : Ext W w3 := hE02.trans (hE3.mono hE02.size)
  clear hw3
  obtain ⟨cB, hcB⟩ : ∃ q, q = w2.heap.size := ⟨_, rfl⟩
  rw [← hcB] at X5 ⊢
  have hcc : cR < cB := by omega
  have hsc2 : sR < cB := by omega
  have hWc : W.heap.size ≤ cB := by have := hE02.size; omega
  clear hcB hE3 hE02
  have hg3 : BoxN w3 gB 24 #[.int .i64 nn, .slice A m c] := hg.ext hE03
  have k0 := hg3.cell 0 (v := .int .i64 (nn : Int)) rfl
  have k1 := hg3.cell 1 (v := .slice A m c) rfl
  have sg := hg3.lt
  replace X5 := hide X5
  replace hg := hide hg
  go_wp2
  clear k0 k1 sg hg3
  go_loopw [27] (fun i wr => ∃ k : Nat, k ≤ m ∧ i = .int .i64 k ∧ Hid (Own intE 3 W.heap.size wr (.slice (some ⟨cR, 0, none⟩) nn nn) (rowF nn (cq (xs.take k) [] []))) ∧ Hid (Box wr cB 28 (.slice (some ⟨cR, 0, none⟩) nn nn)) ∧ Hid (Own intE 3 W.heap.size wr (.slice (some ⟨sR, 0, none⟩) (nn + 1) cs) (starts xs (nn + 1))) ∧ Ext W wr) (fun i _ => m - (intOf i).toNat)
  case atStart => exact ⟨0, Nat.zero_le _, rfl, hown1, X5, hO1, hE03⟩
  case round =>
    clear hown1 X5 hO1 hE03
    obtain ⟨k, hk, rfl, hown1, X5, hO1, hE03⟩ := hrel
    by_cases hlt : k < m
    · have hlt' : (k : Int) < (m : Int) := by omega
      obtain ⟨bk, off, rfl, ra⟩ := hrd.out.at_ (i := k) (by rw [← hm.out]; exact hlt)
      obtain ⟨⟨p1, p2, p3⟩, hx⟩ := get_some (xs := xs) (i := k) (by rw [← hm.out]; exact hlt)
      obtain ⟨hx1, hx2, hx3⟩ := (ra.below (hE03.mono hn0)).edge hx
      have hbk : bk < wr.heap.size := cell_lt hx1
      obtain ⟨-, hp0, hpn⟩ := hfr.out _ (List.mem_of_getElem? hx)
      simp only at hp0 hpn
      obtain ⟨i, rfl⟩ : ∃ i : Nat, p2 = (i : Int) := ⟨p2.toNat, by omega⟩
      have hin : i < nn := by omega
      obtain ⟨y, hy⟩ : ∃ y, y = cq (xs.take k) [] [] i := ⟨_, rfl⟩
      have hyb : 0 ≤ y ∧ y ≤ 40000 := by
        rw [hy]
        unfold cq
        have := cntQ_le (xs := xs.take k) [] [] (i : Int)
        rw [List.length_take] at this
        omega
      have ew : IntKind.i64.wrap (y + 1) = y + 1 := IntWalk.i64_in _ (by omega)
      obtain ⟨g9, hg9, hgs, hc9⟩ := hown1.out.at1 hin
      injection hg9 with hg9
      injection hg9 with hg9
      subst hg9
      rw [show gi (rowF nn (cq (xs.take k) [] [])) i = y by rw [hy]; exact gi_some (rowF_get hin)] at hc9
      obtain ⟨g, u, hg0, hgb, -, hg3, hg4, hS, cur, hcur⟩ := hown1.out.setInt hin (y + 1)
      injection hg0 with hg1
      injection hg1 with hg2
      subst hg2
      have hrow : Hid (rowF nn (cq (xs.take (k + 1)) [] []) = (rowF nn (cq (xs.take k) [] [])).set i (y + 1)) := hide (by
        rw [rowF_set]
        refine rowF_congr fun j _ => ?_
        unfold cq
        rw [inn_snoc hx]
        by_cases hji : j = i
        · subst hji
          rw [if_pos rfl, if_pos rfl, hy]
          unfold cq
          omega
        · rw [if_neg hji, if_neg (show ¬ (j : Int) = (i : Int) by omega)]
          omega)
      clear hS hg3 hcur
      replace hy := hide hy
      replace hx := hide hx
      obtain ⟨w4, hw4⟩ : ∃ x, x = wr.alloc (.cells #[.int .i64 p1, .int .i64 i, .int .i64 p3] 50) := ⟨_, rfl⟩
      have hE4 : Ext wr w4 := by rw [hw4]; exact (Below.refl _ _).alloc (Nat.le_refl _) _
      have X7 : BoxN w4 wr.heap.size 50 #[.int .i64 p1, .int .i64 i, .int .i64 p3] := by rw [hw4]; exact BoxN.new _ _ _
      have hown4 := hown1.out.ext hE4
      have k5 := (X5.out.ext hE4).cell
      have s5 := (X5.out.ext hE4).lt
      have k71 := X7.cell 1 (v := .int .i64 i) rfl
      have s7 := X7.lt
      have hc4 : w4.cell? ⟨cR, i, none⟩ = some (.int .i64 y) := (hE4.cell (p := ⟨cR, i, none⟩) hgs).trans hc9
      have hs4 : cR < w4.heap.size := Nat.lt_of_lt_of_le hgs hE4.size
      obtain ⟨g, u, hg0, hgb, -, hg3, hg4, hS, cur, hcur⟩ := hown4.setInt hin (y + 1)
      injection hg0 with hg1
      injection hg1 with hg2
      subst hg2
      rw [← hrow.out] at hS
      replace hS := hide hS
      have X5' := hide ((X5.out.ext hE4).far (p := ⟨cR, i, none⟩) (by show cB ≠ cR; omega) (.int .i64 (y + 1)))
      have hO1' : Hid (Own intE 3 W.heap.size (w4.setCell ⟨cR, i, none⟩ (.int .i64 (y + 1))) (.slice (some ⟨sR, 0, none⟩) (nn + 1) cs) (starts xs (nn + 1))) := hide ((hO1.out.ext hE4).stir (Stir.setCell (O := [cR]) (p := ⟨cR, i, none⟩) (by simp) _ _) (fun k hk hc => by
        injection hk with hk
        obtain rfl : k = cR := by simpa using hc
        exact hsc hk))
      have hE' := hide ((hE03.trans (hE4.mono hE03.size)).setCell (p := ⟨cR, i, none⟩) hgb (.int .i64 (y + 1)))
      have hi0 : (0 : Int) ≤ (i : Int) := by omega
      have hin' : (i : Int) < (nn : Int) := by omega
      rw [hw4] at k5 s5 k71 s7 hc4 hs4 hg4
      clear hown4 hg3 hcur X5 hO1 hown1 hE03 hc9 hgs hE4 X7
      go_wp2_with fail
      rw [← hw4]
      refine ⟨?_, ?_⟩
      · first
          | exact ⟨k + 1, by omega, by first | omega | go_num, hS, X5', hO1', hE'.out⟩
          | ((repeat apply Exists.intro); exact ⟨⟨k + 1, by omega, by first | omega | go_num, hS, X5', hO1', hE'.out⟩, rfl⟩)
      · first | (simp [intOf, lenV]; omega) | (simp [intOf]; omega) | (simp [intOf]; done)
    · have hlt' : ¬ (k : Int) < (m : Int) := by omega
      have hkm : xs.take k = xs := List.take_of_length_le (by rw [← hm.out]; omega)
      rw [hkm] at hown1
      clear hkm
      go_upto_region 10 with fail
      obtain ⟨w5, hw5⟩ : ∃ x, x = (wr.alloc (.cells #[.slice none 0 0] 84)).alloc (.cells #[.func (.func 55) #[.pointer (some ⟨wr.heap.size, 0, none⟩)] #[]] 85) := ⟨_, rfl⟩
      rw [← hw5]
      have hE5 : Ext wr w5 := by rw [hw5]; exact ((Below.refl _ _).alloc (Nat.le_refl _) _).alloc (by simp) _
      have Xh : Box w5 wr.heap.size 84 (.slice none 0 0) := by rw [hw5]; exact (Box.new _ _ _).alloc _
      have Xp : Box w5 (wr.heap.size + 1) 85 (.func (.func 55) #[.pointer (some ⟨wr.heap.size, 0, none⟩)] #[]) := by
        rw [hw5]
        have := Box.new (wr.alloc (.cells #[.slice none 0 0] 84)) 85 (.func (.func 55) #[.pointer (some ⟨wr.heap.size, 0, none⟩)] #[])
        rw [World.size_alloc] at this
        exact this
      clear hw5
      obtain ⟨hB, hhB⟩ : ∃ q, q = wr.heap.size := ⟨_, rfl⟩
      rw [← hhB] at Xh Xp ⊢
      obtain ⟨pB, hpB⟩ : ∃ q, q = hB + 1 := ⟨_, rfl⟩
      rw [← hpB] at Xp ⊢
      have hlo : W.heap.size ≤ cB ∧ W.heap.size ≤ hB ∧ W.heap.size ≤ pB := by have := hE03.size; omega
      have hsn : sR ∉ tmO cB cR hB pB (.slice none 0 0) := fun hc => by
        have h1 := (hO1.out.lt sR rfl).2
        rcases oneOf hc with h2 | h2 | h2 | h2 | h2
        · omega
        · omega
        · omega
        · omega
        · cases h2
      have hE05 := hE03.trans (hE5.mono hE03.size)
      have hgl : gB < W.heap.size := hg.out.lt
      have hTW : Hid (TW W n₀ W.heap.size gB nn A m c xs sR cs cB cR hB pB J [] (cq xs [] []) (.slice none 0 0) [] w5) := hide
        ⟨⟨X5.out.ext hE5, hown1.out.ext hE5, Xh, Own.nil_, Xp, by simp [Value.ownBlock]⟩, hO1.out.ext hE5, hsn, hg.out.ext hE05, hgl, hn0, hlo, hE05.mono hn0,
          hJ.out [] [] _ W w5 h0 (Ext.stir hE05 []) (fun k hk => by cases hk) (fun k hk => .inr (by
            rcases List.mem_cons.1 hk with rfl | hk
            · exact hsR.1
            · rcases oneOf hk with h2 | h2 | h2 | h2 | h2
              · rw [h2]; exact hlo.1
              · rw [h2]; exact (hown1.out.lt cR rfl).1
              · rw [h2]; exact hlo.2.1
              · rw [h2]; exact hlo.2.2
              · cases h2))⟩
      clear Xh Xp X5 hown1 hO1 hE03 hE5 hE05 hsn hhB hpB h0 hk hlt hlt' hlo
      have k0 := hTW.out.gr.cell 0 (v := .int .i64 (nn : Int)) rfl
      have sg := hTW.out.gr.lt
      go_wp2
      clear k0 sg
      go_loopw [48] (fun i wr => ∃ (k : Nat) (v : Value) (H : List Int), k ≤ nn ∧ i = .int .i64 k ∧ Hid (HInv H (below0 xs k)) ∧ Hid (TW W n₀ W.heap.size gB nn A m c xs sR cs cB cR hB pB J [] (cq xs [] []) v H wr)) (fun i _ => nn - (intOf i).toNat)
      case atStart => exact ⟨0, _, _, Nat.zero_le _, rfl, hide below0_zero, hTW⟩
      case round =>
        clear hTW
        obtain ⟨k, v, H, hk, rfl, hH, hTW⟩ := hrel
        by_cases hlt : k < nn
        · have hlt' : (k : Int) < (nn : Int) := by omega
          have hfree := hide (free_any W.heap.size cB cR hB pB nn (cq xs [] []) v H _ hTW.out.mem k hlt (by have := hinv_len hH.out (fun v hv => below0_rng hv); omega) hH.out.1 hTW.out.size)
          have henter := enter_free
          go_wp2_with fail
          refine hfree.out.mono ?_
          rintro e w6 ⟨⟨x, rfl⟩, v', H', h1, h2, h3, h4, h5, h6⟩
          have hH' : Hid (HInv H' (below0 xs (k + 1))) := hide (by
            by_cases hz : cntQ xs [] [] (k : Int) = 0
            · exact below0_put hH.out hz h2 (h3 (by unfold cq; omega))
            · rw [h4 (by unfold cq; omega)]
              exact below0_skip hH.out hz)
          have hTW' := hide (hTW.out.heap hJ.out h5 h1 h6)
          clear hfree henter h1 h2 h3 h4 h5 h6 hTW hH
          go_wp2
          refine ⟨?_, ?_⟩
          · first
              | exact ⟨k + 1, v', H', by omega, by first | omega | go_num, hH', hTW'⟩
              | ((repeat apply Exists.intro); exact ⟨⟨k + 1, v', H', by omega, by first | omega | go_num, hH', hTW'⟩, rfl⟩)
          · first | (simp [intOf, lenV]; omega) | (simp [intOf]; omega) | (simp [intOf]; done)
        · have hlt' : ¬ (k : Int) < (nn : Int) := by omega
          have hkn : k = nn := by omega
          have hH0 : Hid (HInv H (freeN nn xs [])) := hide (below0_end (by have := hH.out; rw [hkn] at this; exact this))
          clear hH hkn
          have hMR : ∃ d, MR W n₀ W.heap.size gB nn A m c xs sR cs cB cR hB pB J d wr := ⟨nn, 0, v, H, rfl, rfl, hH0.out, hTW.out⟩
          clear hH0 hTW
          replace hMR := hide hMR
          go_upto_block 4 with fail
          refine (wpIn_wide (n := N)).1 ?_
          gi_wp2
          gi_loopw [13] (fun _ wx => ∃ d, MR W n₀ W.heap.size gB nn A m c xs sR cs cB cR hB pB J d wx) (fun _ wx => leastOf fun d => MR W n₀ W.heap.size gB nn A m c xs sR cs cB cR hB pB J d wx)
          case atStart => exact hMR.out
          case round =>
            clear hMR
            obtain ⟨hD0, hDm⟩ := leastOf_spec hrel
            generalize hDe : (leastOf fun d => MR W n₀ W.heap.size gB nn A m c xs sR cs cB cR hB pB J d wr) = D at *
            replace hDm := hide hDm
            obtain ⟨j, v, H, hdj, hlen, hH, hTW⟩ := hD0
            replace hTW := hide hTW
            replace hH := hide hH
            replace hDe := hide hDe
            clear hrel hDm
            have kh := hTW.out.mem.hb.cell
            have sh := hTW.out.mem.hb.lt
            obtain ⟨Ah, ch, rfl, -, -, -⟩ := hTW.out.mem.hr.rd
            by_cases hpos : 0 < H.length
            · have hpos' : (0 : Int) < (H.length : Int) := by omega
              have hHl : H.length ≤ nn := hinv_len hH.out (fun v hv => freeN_rng hv)
              have hnx := hide (hinv_next hH.out hpos)
              have htake := hide (take_any hB _ H W.heap.size _ hTW.out.mem.hb hTW.out.mem.hr (by omega) hH.out.1 hpos)
              obtain ⟨x, hx⟩ : ∃ x, x = gi H 0 := ⟨_, rfl⟩
              rw [← hx] at hnx htake
              replace hx := hide hx
              have henter := enter_take
              generalize hHn : H.length = hn at *
              replace hHn := hide hHn
              gi_wp2_with fail
              refine ⟨trivial, fun h => (by cases h), (callsIn_wide.2 htake.out).mono ?_⟩
              rintro e w6 ⟨rfl, v', H', h1, h2, h3, h4, h5, h6⟩
              clear henter htake kh sh
              have hM6 := hTW.out.mem.heap h5 h1 h2 (fun k hk => .inl (h6 k hk))
              have hTW6 := hide (hTW.out.heap hJ.out h5 hM6 (fun k hk => .inl (h6 k hk)))
              have hH6 := hide (freeQ_start (x := x) (by
                have := hinv_take hH.out (by rw [hHn.out]; exact hpos) h3 (by rw [← hx.out]; exact h4)
                rw [← hx.out] at this
                exact this))
              obtain ⟨⟨hx0, hxn⟩, hxf⟩ := next_some hnx.out
              have hxT := hide (freeV_iff.1 hxf).1
              have hit := hide (it_some hnx.out)
              have hcl2 := hide (closed_it (n := nn) (xs := xs) j)
              have hj1 : j + 1 ≤ nn := by
                have h7 := it_le (n := nn) (xs := xs) (j + 1)
                rw [hit.out, List.length_append, hlen] at h7
                exact h7
              have hpre : Hid (itN nn xs j ++ [x] <+: ordN nn xs) := hide (by
                obtain ⟨r, h7⟩ := it_prefix (n := nn) (xs := xs) (j + 1) (nn - (j + 1))
                refine ⟨r, ?_⟩
                rw [← hit.out, ← h7]
                show itN nn xs _ = itN nn xs nn
                congr 1
                omega)
              have hlen2 : Hid ((itN nn xs (j + 1)).length = j + 1) := hide (by rw [hit.out, List.length_append, hlen]; rfl)
              replace hlen := hide hlen
              clear hxf h1 h2 h3 h4 h5 h6 hM6 hH hTW hHn hx
              generalize hT : itN nn xs j = T at *
              replace hT := hide hT
              obtain ⟨fn, tmps, assign, body, hy, hR⟩ := hY.out _ x w6 hTW6.out.j ⟨hpre.out, fun k hk => (hTW6.out.own k hk).1.2⟩
              dsimp only [encT] at hy
              gi_wp2_with fail
              refine ⟨fun h => (by cases h), hR.mono ?_⟩
              rintro e w7 ⟨rfl, hj7, hk7⟩
              have hTW7 := hide (hTW6.out.round hj7 hk7)
              clear hR hy hj7 hk7 hTW6
              obtain ⟨i, rfl⟩ : ∃ i : Nat, x = (i : Int) := ⟨x.toNat, by omega⟩
              have hin : i < nn := by omega
              obtain ⟨es, hes⟩ : ∃ es, es = xs.filter (fun e => decide (e.1 = (i : Int))) := ⟨_, rfl⟩
              have hbt := out_between r5.out i
              rw [← hes] at hbt
              have d1 := cntB_mono xs i
              have d2 := cntB_le xs (i + 1)
              rw [← hm.out] at d2
              have c1 := gi_some (starts_get (a := xs) (N := nn + 1) (v := i) (by omega))
              have c2 := gi_some (starts_get (a := xs) (N := nn + 1) (v := i + 1) (by omega))
              obtain ⟨ia, hia⟩ : ∃ q, q = cntB xs i := ⟨_, rfl⟩
              obtain ⟨ja, hja⟩ : ∃ q, q = cntB xs (i + 1) := ⟨_, rfl⟩
              rw [← hia] at d1 c1 hbt
              rw [← hja] at d1 d2 c2 hbt
              obtain ⟨m6, hm6⟩ : ∃ q, q = ja - ia := ⟨_, rfl⟩
              have hlen6 : es.length = m6 := by rw [← hbt, List.length_take, List.length_drop, ← hm.out]; omega
              have hrs := (hrd.out.cut (k := ia) (c := c) (by rw [← hm.out]; exact hmc)).take (ja - ia)
              rw [hbt] at hrs
              obtain ⟨b1, hb1, sb, v1⟩ := hTW7.out.st.at1 (i := i) (by omega)
              injection hb1 with hb1
              injection hb1 with hb1
              subst hb1
              obtain ⟨b2, hb2, -, v2⟩ := hTW7.out.st.at1 (i := i + 1) (by omega)
              injection hb2 with hb2
              injection hb2 with hb2
              subst hb2
              rw [c1] at v1
              rw [c2] at v2
              clear hia hja c1 c2 hbt
              replace hes := hide hes
              replace hlen6 := hide hlen6
              replace hrs := hide hrs
              have k1 := hTW7.out.gr.cell 1 (v := .slice A m c) rfl
              have sg := hTW7.out.gr.lt
              have f0 : (0 : Int) ≤ (i : Int) := by omega
              have f1 : (i : Int) < (nn : Int) + 1 := by omega
              have f2 : (i : Int) + 1 < (nn : Int) + 1 := by omega
              have f3 : IntKind.i64.wrap ((i : Int) + 1) = (i : Int) + 1 := IntWalk.i64_in _ (by omega)
              have f4 : ((i : Int) + 1).toNat = i + 1 := by omega
              have f5 : (0 : Int) ≤ (i : Int) + 1 := by omega
              have f6 : (ia : Int) ≤ (ja : Int) := by omega
              have f7 : (ja : Int) ≤ (c : Int) := by omega
              have f8 : (ja : Int) - (ia : Int) = ((m6 : Nat) : Int) := by omega
              have f9 : ja - ia = m6 := by omega
              have f10 : ia ≤ ja := by omega
              have f11 : ja ≤ c := by omega
              replace hm6 := hide hm6
              gi_wp2
              refine wpIn_wide.2 ?_
              refine wp_region_reads [(0, true), (1, true), (2, true), (3, true), (4, true), (5, true), (6, true), (7, true), (8, true), (9, true), (10, true), (11, true), (12, true), (13, true)] (by kernel_rfl) (by kernel_rfl) (by kernel_rfl) (by kernel_rfl) (fun _ _ d _ _ h => by cases d <;> exact h) ?_
              iterate 14
                apply mix_q rfl rfl
                · intro W hW
                  subst hW
                  go_simp
                  try exact rfl
                simp only [Act.put, List.setIfInBounds_toArray, List.set_cons_zero, List.set_cons_succ]
              refine mix_nil ?_
              obtain ⟨w8, hw8⟩ : ∃ q, q = w7.drew := ⟨_, rfl⟩
              rw [← hw8]
              have hTW8 : Hid (TW W n₀ W.heap.size gB nn A m c xs sR cs cB cR hB pB J (T ++ [(i : Int)]) (cq xs T (es.take 0)) v' H' w8) := hide (hTW7.out.ext hJ.out (by rw [hw8]; exact (Below.refl _ _).drew))
              clear hTW7 hw8 v1 v2 k1 sg sb f0 f1 f2 f3 f4 f5 f6 f7 f8 f10 f11
              obtain ⟨As, hAs⟩ : ∃ q : Option Addr, q = (if c = ia then A else A.map (·.add (ia * 3))) := ⟨_, rfl⟩
              rw [← hAs]
              have hrs2 : Hid (Rd edgeE n₀ W As es) := hide (by rw [hAs]; exact hrs.out)
              clear hrs hAs
              gi_wp2
              gi_loopw [80] (fun q wx => ∃ (k : Nat) (v : Value) (H : List Int), k ≤ m6 ∧ q = .int .i64 k ∧ Hid (HInv H (freeQ nn xs (T ++ [(i : Int)]) (es.take k))) ∧ Hid (TW W n₀ W.heap.size gB nn A m c xs sR cs cB cR hB pB J (T ++ [(i : Int)]) (cq xs T (es.take k)) v H wx)) (fun q _ => m6 - (intOf q).toNat)
              case atStart => exact ⟨0, v', H', Nat.zero_le _, rfl, hH6, hTW8⟩
              case round =>
                clear hH6 hTW8
                obtain ⟨k, v8, H8, hk, rfl, hH8, hTW8⟩ := hrel
                by_cases hlt : k < m6
                · have hlt' : (k : Int) < (m6 : Int) := by omega
                  obtain ⟨bk, off, rfl, ra⟩ := hrs2.out.at_ (i := k) (by rw [hlen6.out]; exact hlt)
                  obtain ⟨⟨p1, p2, p3⟩, hx⟩ := get_some (xs := es) (i := k) (by rw [hlen6.out]; exact hlt)
                  obtain ⟨hx1, hx2, hx3⟩ := (ra.below hTW8.out.bel).edge hx
                  have hbk : bk < wr.heap.size := cell_lt hx1
                  have hmem : (p1, p2, p3) ∈ xs ∧ p1 = (i : Int) := by
                    have h1 := List.mem_of_getElem? hx
                    rw [hes.out, List.mem_filter] at h1
                    exact ⟨h1.1, by simpa using h1.2⟩
                  obtain ⟨hexs, rfl⟩ := hmem
                  have hq : (((i : Int), p2, p3) : Int × Int × Int) ∉ es.take k := by
                    refine nodup_take ?_ hx
                    rw [hes.out]
                    exact hnd.out.sublist List.filter_sublist
                  obtain ⟨-, hp0, hpn⟩ := hfr.out _ hexs
                  simp only at hp0 hpn
                  obtain ⟨i2, rfl⟩ : ∃ i2 : Nat, p2 = (i2 : Int) := ⟨p2.toNat, by omega⟩
                  have hin2 : i2 < nn := by omega
                  have hts : es.take (k + 1) = es.take k ++ [((i : Int), (i2 : Int), p3)] := take_snoc hx
                  have hstep := cntQ_step hnd.out hexs (T := T) (q := es.take k) hxT.out hq
                  rw [← hts] at hstep
                  obtain ⟨y, hy⟩ : ∃ y, y = cq xs T (es.take k) i2 := ⟨_, rfl⟩
                  have hf : ∀ j, cq xs T (es.take (k + 1)) j = if j = i2 then y - 1 else cq xs T (es.take k) j := by
                    intro j
                    have h1 := hstep (j : Int)
                    by_cases hji : j = i2
                    · subst hji
                      rw [if_pos rfl, hy]
                      rw [if_pos rfl] at h1
                      unfold cq
                      omega
                    · rw [if_neg hji]
                      rw [if_neg (show ¬ (j : Int) = (i2 : Int) by omega)] at h1
                      unfold cq
                      omega
                  have hyb : 0 ≤ y ∧ y ≤ 40000 := by
                    rw [hy]
                    unfold cq
                    have := cntQ_le (xs := xs) T (es.take k) (i2 : Int)
                    have := hm.out
                    omega
                  have ew : IntKind.i64.wrap (y - 1) = y - 1 := IntWalk.i64_in _ (by omega)
                  obtain ⟨w9, hw9⟩ : ∃ x, x = wr.alloc (.cells #[.int .i64 i, .int .i64 i2, .int .i64 p3] 50) := ⟨_, rfl⟩
                  have hE9 : Ext wr w9 := by rw [hw9]; exact (Below.refl _ _).alloc (Nat.le_refl _) _
                  have X15 : BoxN w9 wr.heap.size 50 #[.int .i64 i, .int .i64 i2, .int .i64 p3] := by rw [hw9]; exact BoxN.new _ _ _
                  have hTW9 := hTW8.out.ext hJ.out hE9
                  have hTW10 := hTW9.come hJ.out hin2 (y - 1) hf
                  obtain ⟨g9, hg9, hs9, hc9⟩ := hTW9.mem.cr.at1 hin2
                  injection hg9 with hg9
                  injection hg9 with hg9
                  subst hg9
                  rw [show gi (rowF nn (cq xs T (es.take k))) i2 = y by rw [hy]; exact gi_some (rowF_get hin2)] at hc9
                  obtain ⟨g, u, hg0, hgb, -, hg3, hg4, hS, cur, hcur⟩ := hTW9.mem.cr.setInt hin2 (y - 1)
                  injection hg0 with hg1
                  injection hg1 with hg2
                  subst hg2
                  have k5 := hTW9.mem.cb.cell
                  have s5 := hTW9.mem.cb.lt
                  have k151 := X15.cell 1 (v := .int .i64 i2) rfl
                  have s15 := X15.lt
                  have hne15 : wr.heap.size ≠ cR := by
                    have := (hTW8.out.mem.cr.lt cR rfl).2
                    omega
                  have k151' : (w9.setCell ⟨cR, i2, none⟩ (.int .i64 (y - 1))).cell? ⟨wr.heap.size, 1, none⟩ = some (.int .i64 i2) :=
                    (cell_same (Below.heap_setCell w9 ⟨cR, i2, none⟩ (.int .i64 (y - 1)) wr.heap.size hne15) 1).trans k151
                  have hi0 : (0 : Int) ≤ (i2 : Int) := by omega
                  have hin' : (i2 : Int) < (nn : Int) := by omega
                  have henter := enter_free
                  have hH8l := hinv_len hH8.out (fun v hv => freeQ_rng hv)
                  have hfree := hide (free_any W.heap.size cB cR hB pB nn (cq xs T (es.take (k + 1))) v8 H8 _ hTW10.mem i2 hin2 (by omega) hH8.out.1 hTW10.size)
                  replace hTW10 := hide hTW10
                  replace hf := hide hf
                  replace hy := hide hy
                  replace hts := hide hts
                  replace hx := hide hx
                  replace hq := hide hq
                  replace hexs := hide hexs
                  replace hH8l := hide hH8l
                  clear hstep hS hcur hg3 hTW9 hTW8 X15 hE9
                  rw [hw9] at hc9 hs9 hg4 k5 s5 k151 s15 k151' hfree hTW10
                  gi_wp2_with fail
                  refine ⟨trivial, fun h => (by cases h), (callsIn_wide.2 hfree.out).mono ?_⟩
                  rintro e w11 ⟨⟨_, rfl⟩, v11, H11, h1, h2, h3, h4, h5, h6⟩
                  have hTW11 := hide (hTW10.out.heap hJ.out h5 h1 h6)
                  have hH11 : Hid (HInv H11 (freeQ nn xs (T ++ [(i : Int)]) (es.take (k + 1)))) := hide (by
                    rw [hts.out]
                    rw [hts.out] at h3 h4
                    by_cases hz : cntQ xs T (es.take k ++ [((i : Int), (i2 : Int), p3)]) (i2 : Int) = 0
                    · exact freeQ_put hjo.out hnd.out hcl2.out hexs.out rfl hxT.out hq.out hH8.out hz h2 (h3 (by unfold cq; omega))
                    · rw [h4 (by unfold cq; omega)]
                      exact freeQ_skip hnd.out hexs.out rfl hxT.out hq.out hH8.out hz)
                  clear henter hfree hTW10 hH8 h1 h2 h3 h4 h5 h6 hc9 hs9 hg4 k5 s5 k151 s15 k151' hx1 hx2 hx3
                  gi_wp2
                  go_roundw
                  case rel => exact ⟨k + 1, v11, H11, by omega, by first | rfl | go_num, hH11, hTW11⟩
                  case measure => simp [intOf]; omega
                · have hlt' : ¬ (k : Int) < (m6 : Int) := by omega
                  have hke : es.take k = es := List.take_of_length_le (by rw [hlen6.out]; omega)
                  have hMR2 : Hid (MR W n₀ W.heap.size gB nn A m c xs sR cs cB cR hB pB J (D - 1) wr) := hide (by
                    refine ⟨j + 1, v8, H8, by omega, hlen2.out, ?_, ?_⟩
                    · rw [hit.out]
                      have h1 := hH8.out
                      rw [hke, hes.out] at h1
                      exact freeQ_end h1
                    · rw [hit.out]
                      have h1 := hTW8.out
                      have hfe : cq xs (T ++ [(i : Int)]) [] = cq xs T (es.take k) := by
                        funext u
                        unfold cq
                        rw [hke, hes.out, cntQ_next (T := T) (q := xs.filter fun e => decide (e.1 = (i : Int))) (v := (i : Int)) (fun e => by rw [List.mem_filter]; simp)]
                      rw [hfe]
                      exact h1)
                  clear hH8 hTW8 hke
                  gi_wp2
                  go_roundw
                  case rel => exact ⟨D - 1, hMR2.out⟩
                  case measure =>
                    have h1 := (leastOf_spec (p := fun d => MR W n₀ W.heap.size gB nn A m c xs sR cs cB cR hB pB J d wr) ⟨D - 1, hMR2.out⟩).2 (D - 1) hMR2.out
                    omega
            · have hpos' : ¬ (0 : Int) < (H.length : Int) := by omega
              have hT2 : itN nn xs j = ordN nn xs := ord_of (hinv_none hH.out (by omega)) (by omega)
              have hJf := hTW.out.j
              rw [hT2] at hJf
              replace hJf := hide hJf
              replace hT2 := hide hT2
              gi_wp2
              go_end0
              first
                | exact ⟨⟨_, rfl⟩, _, rfl, hJf.out⟩
                | exact ⟨⟨_, rfl⟩, _, hJf.out⟩
                | exact ⟨_, hJf.out⟩
/-- the iterator's contract -/
theorem taken_seq (N gB n₀ nn : Nat) (A : Option Addr) (m c : Nat) (xs : List (Int × Int × Int)) (hm : m = xs.length) (hmc : m ≤ c) (hr : rightG nn xs = true) (w : World) (hn0 : n₀ ≤ w.heap.size) (hg : BoxN w gB 24 #[.int .i64 nn, .slice A m c]) (hrd : Rd edgeE n₀ w A xs) :
    SeqT Fence.wide N Try.prog 54 #[.pointer (some ⟨gB, 0, none⟩)] encT (KpT n₀ gB) (fun s x W => s.1 ++ [x] <+: ordN nn xs ∧ ∀ k ∈ s.2, k < W.heap.size) stT (HoldT w.heap.size) ([], []) (fun s => s.1 = ordN nn xs) w := by
  intro l J W hW _ hH hY h0
  exact taken1_in l gB n₀ N nn A m c xs hm hr J W (Nat.le_trans hn0 hW.size) (hH.more hW.size) hY (hg.ext hW) hmc (hrd.below (hW.mono hn0)) h0
theorem taken_any (nn : Int) (A : Option Addr) (m c : Nat) (w : World) :
    Calls Try.prog 36 #[.agg #[.int .i64 nn, .slice A m c]] w fun e w' => e = .returned (.func (.func 54) #[] #[.pointer (some ⟨w.heap.size, 0, none⟩)]) ∧
      w' = w.alloc (.cells #[.int .i64 nn, .slice A m c] 24) := by
  go_enter Try.func36, Try.ntmps36
  go_wp2
  go_ret
  exact ⟨rfl, rfl⟩
end Go.Proofs.Ytepgpiolhiidiaa
