/- The number of a text; the contract of digit.Read. -/
import Derived.Test.YtlianjnmfgakkaaDoorDigD
import Derived.Lib.Strings
namespace Go.Proofs.YtlianjnmfgakkaaDoor
open Go.RowKit Go.Lib

/-- the number that digits are -/
def val (D : List Int) : Nat := D.foldl (fun a b => a * 10 + (b - 48).toNat) 0
def neg (L : List Int) : Bool := L.head? == some 45
/-- the number of a text, and what is wrong with it -/
def readS (L : List Int) : Int × Int :=
  if headEnd L = 0 ∨ headEnd L ≠ L.length then (0, 110)
  else if (L.drop (sg L)).head? = some 48 ∧ (1 < (L.drop (sg L)).length ∨ neg L = true) then (0, 110)
  else if val (L.drop (sg L)) ≤ 9223372036854775807 + (neg L).toNat then (if neg L then -(val (L.drop (sg L)) : Int) else val (L.drop (sg L)), 0)
  else (0, 111)

theorem val_snoc (D : List Int) (b : Int) : val (D ++ [b]) = val D * 10 + (b - 48).toNat := by
  unfold val
  rw [List.foldl_append]
  rfl
theorem num_val (v : Nat) (below : Bool) : numS (v % 18446744073709551616) below (decide (18446744073709551616 ≤ v)) = if v ≤ 9223372036854775807 + below.toNat then (if below then -(v : Int) else (v : Int), true) else (0, false) := by
  unfold numS
  by_cases h : v ≤ 9223372036854775807 + below.toNat
  · have hb : below.toNat ≤ 1 := by cases below <;> decide
    have : v % 18446744073709551616 = v := Nat.mod_eq_of_lt (by omega)
    rw [if_pos h, if_neg (by simp; omega), this]
  · rw [if_neg h, if_pos]
    by_cases h2 : 18446744073709551616 ≤ v
    · left; simpa using h2
    · right
      have : v % 18446744073709551616 = v := Nat.mod_eq_of_lt (by omega)
      omega

theorem read_num {L : List Int} {below : Bool} (hneg : neg L = below) (h1 : headEnd L = L.length) (h2 : headEnd L ≠ 0) (h3 : ¬ ((L.drop (sg L)).head? = some 48 ∧ (1 < (L.drop (sg L)).length ∨ neg L = true))) {v : Nat} (hv : v = val (L.drop (sg L))) :
    readS L = if (numS (v % 18446744073709551616) below (decide (18446744073709551616 ≤ v))).2 then ((numS (v % 18446744073709551616) below (decide (18446744073709551616 ≤ v))).1, 0) else (0, 111) := by
  subst hv hneg
  unfold readS
  rw [if_neg (by omega), if_neg h3, num_val]
  split <;> simp
theorem ext_zero (s : ByteArray) : s.extract 0 0 = ByteArray.empty := by
  apply ByteArray.ext
  simp [ByteArray.data_extract]
theorem ext_all (s : ByteArray) : s.extract 0 s.size = s := by
  apply ByteArray.ext
  rw [ByteArray.data_extract]
  exact Array.extract_size
theorem ext_end (s : ByteArray) : s.extract s.size s.size = ByteArray.empty := by
  apply ByteArray.ext
  simp [ByteArray.data_extract]
theorem ne_empty {s : ByteArray} (h : 0 < s.size) : s ≠ ByteArray.empty := fun e => by
  rw [e] at h
  exact absurd h (by decide)

theorem filled {s : ByteArray} (h : 0 < s.size) : s.toList.isEmpty = false := by
  rw [Lib.toList_data]
  cases hd : s.data.toList with
  | nil =>
    have : s.data.toList.length = s.size := by rw [Array.length_toList]; rfl
    rw [hd] at this
    simp at this
    omega
  | cons => rfl

/-- a text that is all its beginning: digits behind the sign -/
theorem all_head {L : List Int} (h : headEnd L = L.length) (h0 : 0 < L.length) : L.drop (sg L) ≠ [] ∧ ∀ b ∈ L.drop (sg L), isD b = true := by
  have h1 := sg_le L
  have h2 := nd_le (L.drop (sg L))
  rw [List.length_drop] at h2
  unfold headEnd at h
  split at h
  · omega
  · rename_i h3
    refine ⟨fun e => ?_, ?_⟩
    · rw [e] at h3
      simp [nd] at h3
    · intro b hb
      obtain ⟨i, hi⟩ := List.getElem?_of_mem hb
      have hil := (List.getElem?_eq_some_iff.1 hi).1
      rw [List.length_drop] at hil
      obtain ⟨b', hb', hd⟩ := nd_at (L.drop (sg L)) i (by omega)
      rw [hi] at hb'
      cases hb'
      exact hd

/-- a part lies in a block -/
def PartAt (w : World) (b : Nat) (far : Nat) (below out : Bool) : Prop :=
  w.cell? ⟨b, 0, none⟩ = some (.int .u64 far) ∧ w.cell? ⟨b, 1, none⟩ = some (.bool below) ∧ w.cell? ⟨b, 2, none⟩ = some (.bool out) ∧ w.frozen? ⟨b, 0, none⟩ = false ∧ w.frozen? ⟨b, 1, none⟩ = false ∧ w.frozen? ⟨b, 2, none⟩ = false ∧ b < w.heap.size
theorem PartAt.same {w w' : World} {b far : Nat} {below out : Bool} (h : PartAt w b far below out) (hb : w'.heap[b]? = w.heap[b]?) (hs : w.heap.size ≤ w'.heap.size) : PartAt w' b far below out := by
  obtain ⟨h1, h2, h3, h4, h5, h6, h7⟩ := h
  have hc : ∀ o, w'.cell? ⟨b, o, none⟩ = w.cell? ⟨b, o, none⟩ := fun o => World.cell?_of_block (a := ⟨b, o, none⟩) hb
  have hf : ∀ o, w'.frozen? ⟨b, o, none⟩ = w.frozen? ⟨b, o, none⟩ := fun o => World.frozen?_of_block (a := ⟨b, o, none⟩) hb
  exact ⟨(hc 0).trans h1, (hc 1).trans h2, (hc 2).trans h3, (hf 0).trans h4, (hf 1).trans h5, (hf 2).trans h6, by omega⟩
theorem PartAt.ext {w w' : World} {b far : Nat} {below out : Bool} (h : PartAt w b far below out) (hE : Ext w w') : PartAt w' b far below out :=
  h.same (hE.block b h.2.2.2.2.2.2) hE.size

theorem PartAt.put {w : World} {b far : Nat} {below out : Bool} (h : PartAt w b far below out) (f : Nat) (x : Int) (hx : x = (f : Int)) (l o : Bool) :
    PartAt (((w.setCell ⟨b, 0, none⟩ (.int .u64 x)).setCell ⟨b, 1, none⟩ (.bool l)).setCell ⟨b, 2, none⟩ (.bool o)) b f l o := by
  subst hx
  obtain ⟨h1, h2, h3, h4, h5, h6, h7⟩ := h
  refine ⟨?_, ?_, ?_, ?_, ?_, ?_, ?_⟩
  · exact (World.cell?_setCell_other _ _ _ _ (by simp)).trans ((World.cell?_setCell_other _ _ _ _ (by simp)).trans (World.cell?_setCell_same _ _ _ h1))
  · exact (World.cell?_setCell_other _ _ _ _ (by simp)).trans (World.cell?_setCell_same _ _ _ ((World.cell?_setCell_other _ _ _ _ (by simp)).trans h2))
  · exact World.cell?_setCell_same _ _ _ ((World.cell?_setCell_other _ _ _ _ (by simp)).trans ((World.cell?_setCell_other _ _ _ _ (by simp)).trans h3))
  · simpa using h4
  · simpa using h5
  · simpa using h6
  · simpa using h7
theorem take_val {D : List Int} {k : Nat} {b : Int} (h : D[k]? = some b) : val (D.take (k + 1)) = val (D.take k) * 10 + (b - 48).toNat := by
  rw [List.take_add_one, h]
  exact val_snoc _ _

set_option maxHeartbeats 2000000 in
theorem read_any (s : ByteArray) (hl : s.size ≤ 1000000000) (w : World) :
    Calls Tryd.prog 33 #[.string s] w fun e w' => e = .returned (.tuple #[.int .i64 (readS (nums s)).1, .int .i64 (readS (nums s)).2]) ∧ Ext w w' := by
  go_enter Tryd.func33, Tryd.ntmps33
  go_wp2_with fail
  refine (head_any s hl _).mono ?_
  rintro e w1 ⟨rfl, hE1⟩
  have hke := headEnd_le (nums s)
  rw [nums_length] at hke
  obtain ⟨k, hk⟩ : ∃ k, k = headEnd (nums s) := ⟨_, rfl⟩
  rw [← hk] at hke ⊢
  by_cases hk0 : k = 0
  · subst hk0
    rw [ext_zero]
    have hr : readS (nums s) = (0, 110) := by unfold readS; rw [← hk, if_pos (.inl rfl)]
    replace hr := hide hr
    replace hk := hide hk
    go_wp2
    go_ret2
    exact ⟨by rw [hr.out]; rfl, hE1⟩
  · by_cases hks : k = s.size
    · subst hks
      rw [ext_all, ext_end]
      have hpos : 0 < s.size := by omega
      have hne := filled hpos
      obtain ⟨hI, hdig⟩ := all_head (L := nums s) (by rw [nums_length]; exact hk.symm) (by rw [nums_length]; omega)
      replace hk := hide hk
      obtain ⟨b0, hb0⟩ : ∃ b0, b0 = (s[0]'hpos).toNat := ⟨_, rfl⟩
      have hx0 : (s[0]'hpos).toNat = b0 := hb0.symm
      have hL0 : (nums s)[0]? = some (b0 : Int) := by rw [at_byte hpos, hx0]
      replace hb0 := hide hb0
      replace hI := hide hI
      replace hdig := hide hdig
      replace hL0 := hide hL0
      by_cases h45 : b0 = 45
      · subst h45
        have hsg : sg (nums s) = 1 := by
          unfold sg
          rw [List.head?_eq_getElem?, hL0.out]
          rfl
        have hneg : neg (nums s) = true := by
          unfold neg
          rw [List.head?_eq_getElem?, hL0.out]
          rfl
        obtain ⟨t, ht⟩ : ∃ t, t = s.extract 1 s.size := ⟨_, rfl⟩
        have hts : s.extract 1 s.size = t := ht.symm
        have htl : t.size = s.size - 1 := by rw [ht, ByteArray.size_extract, Nat.min_self]
        have htn : nums t = (nums s).drop 1 := by
          rw [ht]
          unfold nums
          rw [ByteArray.data_extract, Array.toList_extract, List.map_take, List.map_drop]
          apply List.take_of_length_le
          simp
        have h2 : 0 < t.size := by
          have := hI.out
          rw [hsg, ← htn] at this
          rcases Nat.eq_zero_or_pos t.size with h | h
          · rw [← nums_length] at h
            exact absurd (List.eq_nil_of_length_eq_zero h) this
          · exact h
        obtain ⟨b1, hb1⟩ : ∃ b1, b1 = (t[0]'h2).toNat := ⟨_, rfl⟩
        have hx1 : (t[0]'h2).toNat = b1 := hb1.symm
        have hT0 : (nums t)[0]? = some (b1 : Int) := by rw [at_byte h2, hx1]
        rw [hsg, ← htn] at hdig
        have hs1 : 1 ≤ s.size := hpos
        have htl' : t.size ≤ 1000000000 := by omega
        replace hb1 := hide hb1
        replace ht := hide ht
        replace htl := hide htl
        replace hT0 := hide hT0
        by_cases h48 : b1 = 48
        · subst h48
          have hr : readS (nums s) = (0, 110) := by
            unfold readS
            rw [← hk.out, if_neg (by rw [nums_length]; omega), hsg, ← htn, List.head?_eq_getElem?, hT0.out, if_pos ⟨rfl, .inr hneg⟩]
          replace hr := hide hr
          replace hsg := hide hsg
          replace hneg := hide hneg
          replace htn := hide htn
          by_cases hs2 : 1 < t.size
          · go_wp2
            go_ret2
            exact ⟨by rw [hr.out]; rfl, hE1.trans (((Below.refl _ _).alloc (Nat.le_refl _) _).mono hE1.size)⟩
          · go_wp2
            go_ret2
            exact ⟨by rw [hr.out]; rfl, hE1.trans (((Below.refl _ _).alloc (Nat.le_refl _) _).mono hE1.size)⟩
        · have h48i : ((b1 : Int) == 48) = false := by rw [beq_eq_false_iff_ne]; omega
          have rnT := read_num (v := val (nums t)) hneg (by rw [nums_length]; exact hk.out.symm) (by rw [← hk.out]; omega) (by rw [hsg, ← htn, List.head?_eq_getElem?, hT0.out]; intro h; exact absurd h.1 (by simp; omega)) (by rw [hsg, ← htn])
          replace rnT := hide rnT
          replace hsg := hide hsg
          replace hneg := hide hneg
          replace htn := hide htn
          clear hL0 hI
          go_wp2
          go_loopw [8] (fun _ wr => ∃ pos : Nat, pos ≤ t.size ∧ Hid (PartAt wr w1.heap.size (val ((nums t).take pos) % 18446744073709551616) true (decide (18446744073709551616 ≤ val ((nums t).take pos)))) ∧ Hid (wr.heap[w1.heap.size + 1]? = some (.stringIter t pos)) ∧ Ext w1 wr) (fun _ wr => t.size - wr.iterPos (w1.heap.size + 1))
          case atStart =>
            refine ⟨0, Nat.zero_le _, hide ⟨?_, ?_, ?_, ?_, ?_, ?_, ?_⟩, hide ?_, ?_⟩
            · simp [World.iter, val]
            · simp [World.iter]
            · simp [World.iter, val]
            · simp [World.iter]
            · simp [World.iter]
            · simp [World.iter]
            · simp [World.iter]; omega
            · have := World.iter_heap (w1.alloc (.cells #[.int .u64 0, .bool true, .bool false] 87)) t 0
              simpa using this
            · exact ((Below.refl _ _).alloc (Nat.le_refl _) _).alloc (by simp) _
          case round =>
            obtain ⟨pos, hps, hP, hit, hB⟩ := hrel
            have hsz := hB.size
            obtain ⟨far, hfar⟩ : ∃ far, far = val ((nums t).take pos) % 18446744073709551616 := ⟨_, rfl⟩
            obtain ⟨out, hout⟩ : ∃ out, out = decide (18446744073709551616 ≤ val ((nums t).take pos)) := ⟨_, rfl⟩
            rw [← hfar, ← hout] at hP
            have hfl : far < 18446744073709551616 := by omega
            replace hfar := hide hfar
            replace hout := hide hout
            by_cases hp : pos < t.size
            · obtain ⟨b, hb, hb1, hb2, -⟩ := letter_at hp
              have hbd := hdig.out _ (List.mem_of_getElem? hb)
              have hb48 : 48 ≤ b ∧ b ≤ 57 := by unfold isD at hbd; simp at hbd; omega
              have hdec := hb2 (by omega)
              have hnx : ∀ ty, (Instr.next (.pointer (some ⟨w1.heap.size + 1, 0, none⟩)) true ty).run Tryd.prog wr = _ := fun ty => run_next_any_at wr (w1.heap.size + 1) t pos ty hit.out hp
              rw [hdec] at hnx
              have hit' := hide (iterAt_heap wr (w1.heap.size + 1) t pos (pos + 1) hit.out)
              have hB' : Ext w1 (wr.iterAt (w1.heap.size + 1) t (pos + 1)) := below_iterAt hB (Nat.le_succ _) t (pos + 1)
              have hP' := hide (hP.out.same (w' := wr.iterAt (w1.heap.size + 1) t (pos + 1)) (iterAt_other _ _ _ _ _ (by omega)) (by rw [iterAt_size]; exact Nat.le_refl _))
              have hsz' : wr.heap.size = (wr.iterAt (w1.heap.size + 1) t (pos + 1)).heap.size := (iterAt_size _ _ _ _).symm
              have hrl := (Array.getElem?_eq_some_iff.1 hit'.out).1
              obtain ⟨wr2, hwr2⟩ : ∃ wr2, wr2 = wr.iterAt (w1.heap.size + 1) t (pos + 1) := ⟨_, rfl⟩
              have hpos : wr.iterPos (w1.heap.size + 1) = pos := by simp only [World.iterPos, hit.out]
              replace hpos := hide hpos
              rw [← hwr2] at hnx hit' hB' hP' hrl
              clear hsz' hdec hb2
              replace hwr2 := hide hwr2
              replace hb := hide hb
              obtain ⟨t1, t2, t3, t4, t5, t6, t7⟩ := hP'.out
              go_wp2_with fail
              refine (with_any far true out b hfl hb48.1 hb48.2 _).mono ?_
              rintro e' w3 ⟨rfl, hE3⟩
              obtain ⟨q1, q2, q3, q4, q5, q6, q7⟩ := hP'.out.ext hE3
              have hit3 := hide ((hE3.block _ hrl).trans hit'.out)
              have hB3 := hB'.trans (hE3.mono hB'.size)
              clear t1 t2 t3 t4 t5 t6 t7 hP' hP hit hB
              have hv := take_val hb.out
              have hfar' : ((far * 10 + (b - 48)) % 18446744073709551616) = val ((nums t).take (pos + 1)) % 18446744073709551616 := by
                have := hfar.out
                omega
              have hout' : (out || decide (18446744073709551616 ≤ far * 10 + (b - 48))) = decide (18446744073709551616 ≤ val ((nums t).take (pos + 1))) := by
                have h1 := hfar.out
                rw [hout.out]
                by_cases hM : 18446744073709551616 ≤ val ((nums t).take pos)
                · rw [decide_eq_true hM, Bool.true_or]
                  exact (decide_eq_true (by omega)).symm
                · rw [decide_eq_false hM, Bool.false_or]
                  exact decide_eq_decide.2 (by omega)
              have hput := PartAt.put ⟨q1, q2, q3, q4, q5, q6, q7⟩ ((far * 10 + (b - 48)) % 18446744073709551616) (((far : Int) * 10 + ((b - 48 : Nat) : Int)) % 18446744073709551616) (by simp) true (out || decide (18446744073709551616 ≤ far * 10 + (b - 48)))
              rw [hfar', hout'] at hput
              replace hput := hide hput
              replace hfar' := hide hfar'
              replace hout' := hide hout'
              clear hv
              unfold partV
              go_wp2
              rw [hout'.out] at *
              refine ⟨⟨pos + 1, hp, hput, hide (by rw [Below.heap_setCell _ _ _ _ (by simp), Below.heap_setCell _ _ _ _ (by simp), Below.heap_setCell _ _ _ _ (by simp)]; exact hit3.out), ?_⟩, ?_⟩
              · exact ((hB3.setCell (Nat.le_refl _) _).setCell (Nat.le_refl _) _).setCell (Nat.le_refl _) _
              · have e2 : ((((w3.setCell ⟨w1.heap.size, 0, none⟩ (.int .u64 (((far : Int) * 10 + ((b - 48 : Nat) : Int)) % 18446744073709551616))).setCell ⟨w1.heap.size, 1, none⟩ (.bool true)).setCell ⟨w1.heap.size, 2, none⟩ (.bool (decide (18446744073709551616 ≤ val ((nums t).take (pos + 1)))))).iterPos (w1.heap.size + 1)) = pos + 1 := by
                  unfold World.iterPos
                  rw [Below.heap_setCell _ _ _ _ (by simp), Below.heap_setCell _ _ _ _ (by simp), Below.heap_setCell _ _ _ _ (by simp), hit3.out]
                rw [e2, hpos.out]
                omega
            · obtain rfl : pos = t.size := by omega
              have hnx : ∀ ty, (Instr.next (.pointer (some ⟨w1.heap.size + 1, 0, none⟩)) true ty).run Tryd.prog wr = _ := fun ty => run_next_end_at wr (w1.heap.size + 1) t _ ty hit.out hp
              obtain ⟨t1, t2, t3, t4, t5, t6, t7⟩ := hP.out
              have htk : (nums t).take t.size = nums t := by rw [← nums_length]; exact List.take_length
              rw [htk] at hfar hout
              clear htk
              go_wp2_with fail
              refine (number_any far true out hfl _).mono ?_
              rintro e' w3 ⟨rfl, hE3⟩
              have hfin := rnT.out
              rw [← hfar.out, ← hout.out] at hfin
              have hBB := hE1.trans ((hB.trans (hE3.mono hsz)).mono hE1.size)
              obtain ⟨nv, hnv⟩ : ∃ nv, nv = numS far true out := ⟨_, rfl⟩
              rw [← hnv] at hfin ⊢
              replace hnv := hide hnv
              obtain ⟨n1, n2⟩ := nv
              replace hfin := hide hfin
              cases n2
              · go_wp2
                go_ret2
                exact ⟨by rw [hfin.out]; rfl, hBB⟩
              · go_wp2
                go_ret2
                exact ⟨by rw [hfin.out]; rfl, hBB⟩
      · have hsg : sg (nums s) = 0 := by
          unfold sg
          rw [List.head?_eq_getElem?, hL0.out, if_neg]
          intro e
          injection e with e
          omega
        have hneg : neg (nums s) = false := by
          unfold neg
          rw [List.head?_eq_getElem?, hL0.out, beq_eq_false_iff_ne]
          intro e
          injection e with e
          omega
        by_cases h48 : b0 = 48 ∧ 1 < s.size
        · obtain ⟨rfl, hs1⟩ := h48
          have hr : readS (nums s) = (0, 110) := by
            unfold readS
            rw [← hk.out, if_neg (by rw [nums_length]; omega), hsg, List.drop_zero, List.head?_eq_getElem?, hL0.out, if_pos ⟨rfl, .inl (by rw [nums_length]; exact hs1)⟩]
          replace hr := hide hr
          replace hsg := hide hsg
          replace hneg := hide hneg
          go_wp2
          go_ret2
          exact ⟨by rw [hr.out]; rfl, hE1.trans (((Below.refl _ _).alloc (Nat.le_refl _) _).mono hE1.size)⟩
        · replace hsg := hide hsg
          replace hneg := hide hneg
          by_cases h48' : b0 = 48
          · subst h48'
            have hs1 : ¬ 1 < s.size := fun h => h48 ⟨rfl, h⟩
            rw [hsg.out, List.drop_zero] at hdig
            have rnS := read_num (v := val (nums s)) hneg.out (by rw [nums_length]; exact hk.out.symm) (by rw [← hk.out]; omega) (by rw [hsg.out, List.drop_zero, List.head?_eq_getElem?, hL0.out, nums_length, hneg.out]; intro h; first | exact absurd h.2 (by simp; omega) | exact absurd h.1 (by simp; omega)) (by rw [hsg.out, List.drop_zero])
            replace rnS := hide rnS
            go_wp2
            go_loopw [8] (fun _ wr => ∃ pos : Nat, pos ≤ s.size ∧ Hid (PartAt wr w1.heap.size (val ((nums s).take pos) % 18446744073709551616) false (decide (18446744073709551616 ≤ val ((nums s).take pos)))) ∧ Hid (wr.heap[w1.heap.size + 1]? = some (.stringIter s pos)) ∧ Ext w1 wr) (fun _ wr => s.size - wr.iterPos (w1.heap.size + 1))
            case atStart =>
              refine ⟨0, Nat.zero_le _, hide ⟨?_, ?_, ?_, ?_, ?_, ?_, ?_⟩, hide ?_, ?_⟩
              · simp [World.iter, val]
              · simp [World.iter]
              · simp [World.iter, val]
              · simp [World.iter]
              · simp [World.iter]
              · simp [World.iter]
              · simp [World.iter]; omega
              · have := World.iter_heap (w1.alloc (.cells #[.int .u64 0, .bool false, .bool false] 87)) s 0
                simpa using this
              · exact ((Below.refl _ _).alloc (Nat.le_refl _) _).alloc (by simp) _
            case round =>
              obtain ⟨pos, hps, hP, hit, hB⟩ := hrel
              have hsz := hB.size
              obtain ⟨far, hfar⟩ : ∃ far, far = val ((nums s).take pos) % 18446744073709551616 := ⟨_, rfl⟩
              obtain ⟨out, hout⟩ : ∃ out, out = decide (18446744073709551616 ≤ val ((nums s).take pos)) := ⟨_, rfl⟩
              rw [← hfar, ← hout] at hP
              have hfl : far < 18446744073709551616 := by omega
              replace hfar := hide hfar
              replace hout := hide hout
              by_cases hp : pos < s.size
              · obtain ⟨b, hb, hb1, hb2, -⟩ := letter_at hp
                have hbd := hdig.out _ (List.mem_of_getElem? hb)
                have hb48 : 48 ≤ b ∧ b ≤ 57 := by unfold isD at hbd; simp at hbd; omega
                have hdec := hb2 (by omega)
                have hnx : ∀ ty, (Instr.next (.pointer (some ⟨w1.heap.size + 1, 0, none⟩)) true ty).run Tryd.prog wr = _ := fun ty => run_next_any_at wr (w1.heap.size + 1) s pos ty hit.out hp
                rw [hdec] at hnx
                have hit' := hide (iterAt_heap wr (w1.heap.size + 1) s pos (pos + 1) hit.out)
                have hB' : Ext w1 (wr.iterAt (w1.heap.size + 1) s (pos + 1)) := below_iterAt hB (Nat.le_succ _) s (pos + 1)
                have hP' := hide (hP.out.same (w' := wr.iterAt (w1.heap.size + 1) s (pos + 1)) (iterAt_other _ _ _ _ _ (by omega)) (by rw [iterAt_size]; exact Nat.le_refl _))
                have hsz' : wr.heap.size = (wr.iterAt (w1.heap.size + 1) s (pos + 1)).heap.size := (iterAt_size _ _ _ _).symm
                have hrl := (Array.getElem?_eq_some_iff.1 hit'.out).1
                obtain ⟨wr2, hwr2⟩ : ∃ wr2, wr2 = wr.iterAt (w1.heap.size + 1) s (pos + 1) := ⟨_, rfl⟩
                have hpos : wr.iterPos (w1.heap.size + 1) = pos := by simp only [World.iterPos, hit.out]
                replace hpos := hide hpos
                rw [← hwr2] at hnx hit' hB' hP' hrl
                clear hsz' hdec hb2
                replace hwr2 := hide hwr2
                replace hb := hide hb
                obtain ⟨t1, t2, t3, t4, t5, t6, t7⟩ := hP'.out
                go_wp2_with fail
                refine (with_any far false out b hfl hb48.1 hb48.2 _).mono ?_
                rintro e' w3 ⟨rfl, hE3⟩
                obtain ⟨q1, q2, q3, q4, q5, q6, q7⟩ := hP'.out.ext hE3
                have hit3 := hide ((hE3.block _ hrl).trans hit'.out)
                have hB3 := hB'.trans (hE3.mono hB'.size)
                clear t1 t2 t3 t4 t5 t6 t7 hP' hP hit hB
                have hv := take_val hb.out
                have hfar' : ((far * 10 + (b - 48)) % 18446744073709551616) = val ((nums s).take (pos + 1)) % 18446744073709551616 := by
                  have := hfar.out
                  omega
                have hout' : (out || decide (18446744073709551616 ≤ far * 10 + (b - 48))) = decide (18446744073709551616 ≤ val ((nums s).take (pos + 1))) := by
                  have h1 := hfar.out
                  rw [hout.out]
                  by_cases hM : 18446744073709551616 ≤ val ((nums s).take pos)
                  · rw [decide_eq_true hM, Bool.true_or]
                    exact (decide_eq_true (by omega)).symm
                  · rw [decide_eq_false hM, Bool.false_or]
                    exact decide_eq_decide.2 (by omega)
                have hput := PartAt.put ⟨q1, q2, q3, q4, q5, q6, q7⟩ ((far * 10 + (b - 48)) % 18446744073709551616) (((far : Int) * 10 + ((b - 48 : Nat) : Int)) % 18446744073709551616) (by simp) false (out || decide (18446744073709551616 ≤ far * 10 + (b - 48)))
                rw [hfar', hout'] at hput
                replace hput := hide hput
                replace hfar' := hide hfar'
                replace hout' := hide hout'
                clear hv
                unfold partV
                go_wp2
                rw [hout'.out] at *
                refine ⟨⟨pos + 1, hp, hput, hide (by rw [Below.heap_setCell _ _ _ _ (by simp), Below.heap_setCell _ _ _ _ (by simp), Below.heap_setCell _ _ _ _ (by simp)]; exact hit3.out), ?_⟩, ?_⟩
                · exact ((hB3.setCell (Nat.le_refl _) _).setCell (Nat.le_refl _) _).setCell (Nat.le_refl _) _
                · have e2 : ((((w3.setCell ⟨w1.heap.size, 0, none⟩ (.int .u64 (((far : Int) * 10 + ((b - 48 : Nat) : Int)) % 18446744073709551616))).setCell ⟨w1.heap.size, 1, none⟩ (.bool false)).setCell ⟨w1.heap.size, 2, none⟩ (.bool (decide (18446744073709551616 ≤ val ((nums s).take (pos + 1)))))).iterPos (w1.heap.size + 1)) = pos + 1 := by
                    unfold World.iterPos
                    rw [Below.heap_setCell _ _ _ _ (by simp), Below.heap_setCell _ _ _ _ (by simp), Below.heap_setCell _ _ _ _ (by simp), hit3.out]
                  rw [e2, hpos.out]
                  omega
              · obtain rfl : pos = s.size := by omega
                have hnx : ∀ ty, (Instr.next (.pointer (some ⟨w1.heap.size + 1, 0, none⟩)) true ty).run Tryd.prog wr = _ := fun ty => run_next_end_at wr (w1.heap.size + 1) s _ ty hit.out hp
                obtain ⟨t1, t2, t3, t4, t5, t6, t7⟩ := hP.out
                have htk : (nums s).take s.size = nums s := by rw [← nums_length]; exact List.take_length
                rw [htk] at hfar hout
                clear htk
                go_wp2_with fail
                refine (number_any far false out hfl _).mono ?_
                rintro e' w3 ⟨rfl, hE3⟩
                have hfin := rnS.out
                rw [← hfar.out, ← hout.out] at hfin
                have hBB := hE1.trans ((hB.trans (hE3.mono hsz)).mono hE1.size)
                obtain ⟨nv, hnv⟩ : ∃ nv, nv = numS far false out := ⟨_, rfl⟩
                rw [← hnv] at hfin ⊢
                replace hnv := hide hnv
                obtain ⟨n1, n2⟩ := nv
                replace hfin := hide hfin
                cases n2
                · go_wp2
                  go_ret2
                  exact ⟨by rw [hfin.out]; rfl, hBB⟩
                · go_wp2
                  go_ret2
                  exact ⟨by rw [hfin.out]; rfl, hBB⟩
          · have h48i : ((b0 : Int) == 48) = false := by rw [beq_eq_false_iff_ne]; omega
            have h45i : ((b0 : Int) == 45) = false := by rw [beq_eq_false_iff_ne]; omega
            rw [hsg.out, List.drop_zero] at hdig
            have rnS := read_num (v := val (nums s)) hneg.out (by rw [nums_length]; exact hk.out.symm) (by rw [← hk.out]; omega) (by rw [hsg.out, List.drop_zero, List.head?_eq_getElem?, hL0.out, nums_length, hneg.out]; intro h; first | exact absurd h.2 (by simp; omega) | exact absurd h.1 (by simp; omega)) (by rw [hsg.out, List.drop_zero])
            replace rnS := hide rnS
            go_wp2
            go_loopw [8] (fun _ wr => ∃ pos : Nat, pos ≤ s.size ∧ Hid (PartAt wr w1.heap.size (val ((nums s).take pos) % 18446744073709551616) false (decide (18446744073709551616 ≤ val ((nums s).take pos)))) ∧ Hid (wr.heap[w1.heap.size + 1]? = some (.stringIter s pos)) ∧ Ext w1 wr) (fun _ wr => s.size - wr.iterPos (w1.heap.size + 1))
            case atStart =>
              refine ⟨0, Nat.zero_le _, hide ⟨?_, ?_, ?_, ?_, ?_, ?_, ?_⟩, hide ?_, ?_⟩
              · simp [World.iter, val]
              · simp [World.iter]
              · simp [World.iter, val]
              · simp [World.iter]
              · simp [World.iter]
              · simp [World.iter]
              · simp [World.iter]; omega
              · have := World.iter_heap (w1.alloc (.cells #[.int .u64 0, .bool false, .bool false] 87)) s 0
                simpa using this
              · exact ((Below.refl _ _).alloc (Nat.le_refl _) _).alloc (by simp) _
            case round =>
              obtain ⟨pos, hps, hP, hit, hB⟩ := hrel
              have hsz := hB.size
              obtain ⟨far, hfar⟩ : ∃ far, far = val ((nums s).take pos) % 18446744073709551616 := ⟨_, rfl⟩
              obtain ⟨out, hout⟩ : ∃ out, out = decide (18446744073709551616 ≤ val ((nums s).take pos)) := ⟨_, rfl⟩
              rw [← hfar, ← hout] at hP
              have hfl : far < 18446744073709551616 := by omega
              replace hfar := hide hfar
              replace hout := hide hout
              by_cases hp : pos < s.size
              · obtain ⟨b, hb, hb1, hb2, -⟩ := letter_at hp
                have hbd := hdig.out _ (List.mem_of_getElem? hb)
                have hb48 : 48 ≤ b ∧ b ≤ 57 := by unfold isD at hbd; simp at hbd; omega
                have hdec := hb2 (by omega)
                have hnx : ∀ ty, (Instr.next (.pointer (some ⟨w1.heap.size + 1, 0, none⟩)) true ty).run Tryd.prog wr = _ := fun ty => run_next_any_at wr (w1.heap.size + 1) s pos ty hit.out hp
                rw [hdec] at hnx
                have hit' := hide (iterAt_heap wr (w1.heap.size + 1) s pos (pos + 1) hit.out)
                have hB' : Ext w1 (wr.iterAt (w1.heap.size + 1) s (pos + 1)) := below_iterAt hB (Nat.le_succ _) s (pos + 1)
                have hP' := hide (hP.out.same (w' := wr.iterAt (w1.heap.size + 1) s (pos + 1)) (iterAt_other _ _ _ _ _ (by omega)) (by rw [iterAt_size]; exact Nat.le_refl _))
                have hsz' : wr.heap.size = (wr.iterAt (w1.heap.size + 1) s (pos + 1)).heap.size := (iterAt_size _ _ _ _).symm
                have hrl := (Array.getElem?_eq_some_iff.1 hit'.out).1
                obtain ⟨wr2, hwr2⟩ : ∃ wr2, wr2 = wr.iterAt (w1.heap.size + 1) s (pos + 1) := ⟨_, rfl⟩
                have hpos : wr.iterPos (w1.heap.size + 1) = pos := by simp only [World.iterPos, hit.out]
                replace hpos := hide hpos
                rw [← hwr2] at hnx hit' hB' hP' hrl
                clear hsz' hdec hb2
                replace hwr2 := hide hwr2
                replace hb := hide hb
                obtain ⟨t1, t2, t3, t4, t5, t6, t7⟩ := hP'.out
                go_wp2_with fail
                refine (with_any far false out b hfl hb48.1 hb48.2 _).mono ?_
                rintro e' w3 ⟨rfl, hE3⟩
                obtain ⟨q1, q2, q3, q4, q5, q6, q7⟩ := hP'.out.ext hE3
                have hit3 := hide ((hE3.block _ hrl).trans hit'.out)
                have hB3 := hB'.trans (hE3.mono hB'.size)
                clear t1 t2 t3 t4 t5 t6 t7 hP' hP hit hB
                have hv := take_val hb.out
                have hfar' : ((far * 10 + (b - 48)) % 18446744073709551616) = val ((nums s).take (pos + 1)) % 18446744073709551616 := by
                  have := hfar.out
                  omega
                have hout' : (out || decide (18446744073709551616 ≤ far * 10 + (b - 48))) = decide (18446744073709551616 ≤ val ((nums s).take (pos + 1))) := by
                  have h1 := hfar.out
                  rw [hout.out]
                  by_cases hM : 18446744073709551616 ≤ val ((nums s).take pos)
                  · rw [decide_eq_true hM, Bool.true_or]
                    exact (decide_eq_true (by omega)).symm
                  · rw [decide_eq_false hM, Bool.false_or]
                    exact decide_eq_decide.2 (by omega)
                have hput := PartAt.put ⟨q1, q2, q3, q4, q5, q6, q7⟩ ((far * 10 + (b - 48)) % 18446744073709551616) (((far : Int) * 10 + ((b - 48 : Nat) : Int)) % 18446744073709551616) (by simp) false (out || decide (18446744073709551616 ≤ far * 10 + (b - 48)))
                rw [hfar', hout'] at hput
                replace hput := hide hput
                replace hfar' := hide hfar'
                replace hout' := hide hout'
                clear hv
                unfold partV
                go_wp2
                rw [hout'.out] at *
                refine ⟨⟨pos + 1, hp, hput, hide (by rw [Below.heap_setCell _ _ _ _ (by simp), Below.heap_setCell _ _ _ _ (by simp), Below.heap_setCell _ _ _ _ (by simp)]; exact hit3.out), ?_⟩, ?_⟩
                · exact ((hB3.setCell (Nat.le_refl _) _).setCell (Nat.le_refl _) _).setCell (Nat.le_refl _) _
                · have e2 : ((((w3.setCell ⟨w1.heap.size, 0, none⟩ (.int .u64 (((far : Int) * 10 + ((b - 48 : Nat) : Int)) % 18446744073709551616))).setCell ⟨w1.heap.size, 1, none⟩ (.bool false)).setCell ⟨w1.heap.size, 2, none⟩ (.bool (decide (18446744073709551616 ≤ val ((nums s).take (pos + 1)))))).iterPos (w1.heap.size + 1)) = pos + 1 := by
                    unfold World.iterPos
                    rw [Below.heap_setCell _ _ _ _ (by simp), Below.heap_setCell _ _ _ _ (by simp), Below.heap_setCell _ _ _ _ (by simp), hit3.out]
                  rw [e2, hpos.out]
                  omega
              · obtain rfl : pos = s.size := by omega
                have hnx : ∀ ty, (Instr.next (.pointer (some ⟨w1.heap.size + 1, 0, none⟩)) true ty).run Tryd.prog wr = _ := fun ty => run_next_end_at wr (w1.heap.size + 1) s _ ty hit.out hp
                obtain ⟨t1, t2, t3, t4, t5, t6, t7⟩ := hP.out
                have htk : (nums s).take s.size = nums s := by rw [← nums_length]; exact List.take_length
                rw [htk] at hfar hout
                clear htk
                go_wp2_with fail
                refine (number_any far false out hfl _).mono ?_
                rintro e' w3 ⟨rfl, hE3⟩
                have hfin := rnS.out
                rw [← hfar.out, ← hout.out] at hfin
                have hBB := hE1.trans ((hB.trans (hE3.mono hsz)).mono hE1.size)
                obtain ⟨nv, hnv⟩ : ∃ nv, nv = numS far false out := ⟨_, rfl⟩
                rw [← hnv] at hfin ⊢
                replace hnv := hide hnv
                obtain ⟨n1, n2⟩ := nv
                replace hfin := hide hfin
                cases n2
                · go_wp2
                  go_ret2
                  exact ⟨by rw [hfin.out]; rfl, hBB⟩
                · go_wp2
                  go_ret2
                  exact ⟨by rw [hfin.out]; rfl, hBB⟩
    · have hr : readS (nums s) = (0, 110) := by unfold readS; rw [← hk, nums_length, if_pos (.inr hks)]
      have h1 : 0 < (s.extract 0 k).size := by rw [ByteArray.size_extract]; omega
      have h2 : 0 < (s.extract k s.size).size := by rw [ByteArray.size_extract]; omega
      have h3 := filled h1
      have h4 := filled h2
      generalize s.extract 0 k = a at *
      generalize s.extract k s.size = b at *
      replace hr := hide hr
      replace hk := hide hk
      go_wp2
      go_ret2
      exact ⟨by rw [hr.out]; rfl, hE1⟩
end Go.Proofs.YtlianjnmfgakkaaDoor
