/- Sets of numbers: Union. -/
import Derived.Test.YtkiklbngfocljaaDoorBitH
namespace Go.Proofs.YtkiklbngfocljaaDoor
open Go.RowKit

abbrev SArg := (Option Addr × Nat × Nat) × List Nat
def SOk (w : World) (s : SArg) : Prop := Rd wE w.heap.size w s.1.1 s.2 ∧ s.1.2.1 = s.2.length ∧ s.1.2.1 ≤ 1000 ∧ Fit s.2
theorem SOk.ext {w w' : World} {s : SArg} (h : SOk w s) (hE : Ext w w') : SOk w' s := ⟨h.1.ext hE, h.2⟩
/-- a row of sets, as the variadic argument has them -/
def SRow (w : World) (A : Option Addr) (L : List SArg) : Prop := (L = [] ∨ ∃ b off, A = some ⟨b, off, none⟩ ∧ b < w.heap.size ∧ ∀ i s, L[i]? = some s → w.cell? ⟨b, off + i, none⟩ = some (.slice s.1.1 s.1.2.1 s.1.2.2)) ∧ ∀ s ∈ L, SOk w s
def unionL (L : List SArg) : List Nat := L.foldl (fun out s => trimW (joinL (fun x y => x ||| y) out (ofW s.2))) []
theorem unionL_snoc (L : List SArg) (s : SArg) : unionL (L ++ [s]) = trimW (joinL (fun x y => x ||| y) (unionL L) (ofW s.2)) := by unfold unionL; rw [List.foldl_append]; rfl
theorem joinL_length (J : Nat → Nat → Nat) (a b : List Nat) : (joinL J a b).length = max a.length b.length := by unfold joinL; rw [rowJ_length]
theorem unionL_ok : ∀ (L : List SArg), (∀ s ∈ L, s.2.length ≤ 1000 ∧ Fit s.2) → Fit (unionL L) ∧ (unionL L).length ≤ 1000 := by
  intro L
  refine snoc_cases (fun L => (∀ s ∈ L, s.2.length ≤ 1000 ∧ Fit s.2) → Fit (unionL L) ∧ (unionL L).length ≤ 1000) (fun _ => ⟨fun x hx => (by cases hx), Nat.zero_le _⟩) (fun L s ih h => ?_) L
  obtain ⟨h1, h2⟩ := ih (fun x hx => h x (by simp [hx]))
  obtain ⟨h3, h4⟩ := h s (by simp)
  rw [unionL_snoc]
  refine ⟨trimW_fit (rowJ_fit (fun x y => or_fit) h1 (ofW_fit h4) _ _), Nat.le_trans (trimW_len _) ?_⟩
  have := ofW_le s.2
  rw [joinL_length]
  omega
set_option maxRecDepth 100000 in
set_option maxHeartbeats 2000000 in
theorem union_any (A : Option Addr) (n c : Nat) (L : List SArg) (w : World) (h : SRow w A L) (hn : n = L.length) (hl : n ≤ 1000) :
    Calls Tryd.prog 31 #[.slice A n c] w fun e w' => ∃ v, e = .returned (.agg #[v]) ∧ Own wE 43 w.heap.size w' v (unionL L) ∧ Ext w w' := by
  replace h := hide h
  replace hn := hide hn
  go_enter Tryd.func31, Tryd.ntmps31
  go_upto_region 2 with fail
  obtain ⟨w0, hw0⟩ : ∃ w0, w0 = (w.alloc (.cells #[.slice none 0 0] 24)).alloc (.cells #[.slice none 0 0] 24) := ⟨_, rfl⟩
  rw [← hw0]
  have hE0 : Ext w w0 := by rw [hw0]; exact ((Below.refl _ _).alloc (Nat.le_refl _) _).alloc (by simp) _
  have hx2 : Hid (Box w0 w.heap.size 24 (.slice none 0 0)) := hide (by rw [hw0]; exact (Box.new w _ _).alloc _)
  have hx3 : Box w0 (w.heap.size + 1) 24 (.slice none 0 0) := by
    rw [hw0]
    have := Box.new (w.alloc (.cells #[.slice none 0 0] 24)) 24 (.slice none 0 0)
    rw [World.size_alloc] at this
    exact this
  clear hw0
  obtain ⟨b3, hb3⟩ : ∃ b, b = w.heap.size + 1 := ⟨_, rfl⟩
  rw [← hb3] at hx3 ⊢
  have hb3' : w.heap.size ≤ b3 := by omega
  have hne : w.heap.size ≠ b3 := by omega
  clear hb3
  replace hx3 := hide hx3
  go_wp2
  go_loopw [8] (fun i wr => ∃ (k : Nat) (v : Value), k ≤ n ∧ i = .int .i64 k ∧ Hid (Own wE 43 w.heap.size wr v (unionL (L.take k))) ∧ Hid (Box wr b3 24 v) ∧ Hid (Box wr w.heap.size 24 (.slice none 0 0)) ∧ Ext w wr) (fun i _ => n - (intOf i).toNat)
  case atStart => exact ⟨0, _, Nat.zero_le _, rfl, hide Own.nil_, hx3, hx2, hE0⟩
  case round =>
    clear hx2 hx3 hE0
    obtain ⟨k, v, hk, rfl, hO, hx3, hx2, hB⟩ := hrel
    obtain ⟨hcc, hff⟩ := bcell hB
    have hsz := hB.size
    obtain ⟨A1, c1, rfl, hr1, -, -⟩ := hO.out.rd
    obtain ⟨n1, hn1⟩ : ∃ n1, n1 = (unionL (L.take k)).length := ⟨_, rfl⟩
    rw [← hn1] at hx3 hO
    obtain ⟨hfit, hlen⟩ := unionL_ok (L.take k) (fun s hs => by have := h.out.2 s (List.mem_of_mem_take hs); exact ⟨by rw [← this.2.1]; exact this.2.2.1, this.2.2.2⟩)
    rw [← hn1] at hlen
    replace hn1 := hide hn1
    replace hr1 := hide hr1
    by_cases hlt : k < n
    · have hlt' : (k : Int) < (n : Int) := by omega
      obtain ⟨⟨⟨A2, n2, c2⟩, vs⟩, hs⟩ := get_some (xs := L) (i := k) (by rw [← hn.out]; exact hlt)
      obtain ⟨hR, hn2, hl2, hf2⟩ := (h.out.2 _ (List.mem_of_getElem? hs)).ext hB
      obtain ⟨b, off, rfl, hb, hcells⟩ : ∃ b off, A = some ⟨b, off, none⟩ ∧ b < w.heap.size ∧ ∀ i s, L[i]? = some s → w.cell? ⟨b, off + i, none⟩ = some (.slice s.1.1 s.1.2.1 s.1.2.2) := by
        rcases h.out.1 with h0 | h0
        · rw [h0] at hs; cases hs
        · exact h0
      have hpc : wr.cell? ⟨b, off + k, none⟩ = some (.slice A2 n2 c2) := (hcc b _ hb).trans (hcells k _ hs)
      have hbr := Nat.lt_of_lt_of_le hb hsz
      have hsn : Hid (unionL (L.take (k + 1)) = trimW (joinL (fun x y => x ||| y) (unionL (L.take k)) (ofW vs))) := hide (by rw [take_snoc hs, unionL_snoc])
      replace hR := hide hR
      replace hn2 := hide (show n2 = vs.length from hn2)
      replace hl2 : n2 ≤ 1000 := hl2
      replace hf2 : Fit vs := hf2
      replace hs := hide hs
      replace hcells := hide hcells
      clear hcc hff
      go_wp2
      obtain ⟨w1, hw1⟩ : ∃ w1, w1 = wr.alloc (.cells #[.slice A2 n2 c2] 24) := ⟨_, rfl⟩
      rw [← hw1]
      have hEr : Ext wr w1 := by rw [hw1]; exact (Below.refl _ _).alloc (Nat.le_refl _) _
      have hc5 : w1.cell? ⟨wr.heap.size, 0, none⟩ = some (.slice A2 n2 c2) := by rw [hw1]; exact (Box.new wr _ _).cell
      have hb5 : wr.heap.size < w1.heap.size := by rw [hw1]; simp
      clear hw1
      have hB1 := hB.trans (hEr.mono hsz)
      have hx31 := hide (hx3.out.ext hEr)
      have hx21 := hide (hx2.out.ext hEr)
      have hc3 := hx31.out.cell
      have hb3s := hx31.out.lt
      refine wp_region_mixE (fun W => Below w1.heap.size w1 W) 5 [(0, true), (2, true), (1, true), (3, false), (4, false), (5, false)] (by kernel_rfl) (by kernel_rfl) (by kernel_rfl) (by kernel_rfl) (by kernel_rfl) (by kernel_rfl) (fun _ _ d _ _ h => by cases d <;> exact h) ?_ ?_
      · exact (Below.refl _ _).drew
      iterate 3
        apply mixE_q rfl rfl
        · intro W hW
          have hcW := (bcell hW).1
          go_simp
          try exact rfl
        simp only [Act.put, List.setIfInBounds_toArray, List.set_cons_zero, List.set_cons_succ]
      have hSd : Below w1.heap.size w1 w1.drew := (Below.refl _ _).drew
      refine mixE_w rfl rfl (fun K hK => ?_)
      go_simp
      refine (of_any A2 n2 c2 vs _ ((hR.out.ext hEr).ext hSd) hn2.out (by omega) hf2).mono ?_
      rintro e w2 ⟨A2', c2', rfl, -, hr2, hE2⟩
      have hS2 : Ext w1 w2 := hSd.trans hE2
      refine hK _ _ (fun _ => hS2) ?_
      clear hK K
      try simp only [Act.put, List.setIfInBounds_toArray, List.set_cons_zero, List.set_cons_succ]
      have hl2' : (ofW vs).length ≤ 1000 := Nat.le_trans (ofW_le vs) (by rw [← hn2.out]; exact hl2)
      obtain ⟨m2, hm2⟩ : ∃ m, m = (ofW vs).length := ⟨_, rfl⟩
      rw [← hm2] at hl2' ⊢
      replace hm2 := hide hm2
      replace hr2 := hide hr2
      refine mixE_w rfl rfl (fun K hK => ?_)
      go_simp
      refine (joined_any 45 (fun x y => x ||| y) orJ enter_or A1 A2' n1 c1 m2 c2' (unionL (L.take k)) (ofW vs) _ ((hr1.out.ext hEr).ext hS2) hn1.out hlen hfit hr2.out hm2.out hl2' (ofW_fit hf2)).mono ?_
      rintro e w3 ⟨v3, rfl, hO3, hE3⟩
      have hS3 : Ext w1 w3 := hS2.trans (hE3.mono hS2.size)
      refine hK _ _ (fun _ => hS3) ?_
      clear hK K
      try simp only [Act.put, List.setIfInBounds_toArray, List.set_cons_zero, List.set_cons_succ]
      have hB3 := hB1.trans (hS3.mono hB1.size)
      have hx33 := hx31.out.ext hS3
      have hx23 := hx21.out.ext hS3
      have hcb := hx33.cell
      have hfb := hx33.free
      have hsb := hx33.lt
      have hB2s := Nat.le_trans hB1.size hS2.size
      have hO4 : Hid (Own wE 43 w.heap.size (w3.setCell ⟨b3, 0, none⟩ v3) v3 (unionL (L.take (k + 1)))) := hide (by rw [hsn.out]; exact (hO3.base_le hB2s).set hx33 (by decide) v3)
      have hx34 := hide (hx33.set v3)
      have hx24 := hide (hx23.far (p := ⟨b3, 0, none⟩) hne v3)
      obtain ⟨A7, c7, rfl, -, -, -⟩ := hO3.rd
      clear hO3
      refine mixE_w rfl rfl (fun K hK => ?_)
      go_simp
      refine hK _ _ (fun h => absurd rfl h) ?_
      clear hK K
      try simp only [Act.put, List.setIfInBounds_toArray, List.set_cons_zero, List.set_cons_succ]
      refine mixE_nil ?_
      have hB4 := hB3.setCell (p := ⟨b3, 0, none⟩) hb3' (.slice A7 (trimW (joinL (fun x y => x ||| y) (unionL (L.take k)) (ofW vs))).length c7)
      go_wp2
      refine ⟨?_, ?_⟩
      · first
          | exact ⟨k + 1, _, by omega, by go_num, hO4, hx34, hx24, hB4⟩
          | ((repeat apply Exists.intro); exact ⟨⟨k + 1, _, by omega, by go_num, hO4, hx34, hx24, hB4⟩, rfl⟩)
      · first | (simp [intOf, lenV]; omega) | (simp [intOf]; omega) | (simp [intOf]; done)
    · obtain rfl : k = n := by omega
      have htl : L.take k = L := by rw [hn.out, List.take_length]
      have hc3 := hx3.out.cell
      have hs3 := hx3.out.lt
      have hcb := hx2.out.cell
      have hfb := hx2.out.free
      have hsb := hx2.out.lt
      have hO5 := hide ((hO.out).set hx2.out (by decide) (.slice A1 n1 c1))
      have hx6 := hide (hx2.out.set (.slice A1 n1 c1))
      replace htl := hide htl
      go_wp2
      refine bodyPost_ret (results_cell_row rfl _ _ w.heap.size 24 _ _ _ rfl hx6.out Tryd.underlying24 rfl (by kernel_rfl)) rfl ?_
      refine ⟨_, rfl, ?_, hB.setCell (p := ⟨w.heap.size, 0, none⟩) (Nat.le_refl _) _⟩
      have h9 := hO5.out
      rw [htl.out] at h9
      exact h9
end Go.Proofs.YtkiklbngfocljaaDoor
