/- How a text begins: plain words on texts as rows of numbers; the contract of digit.Head. -/
import Derived.Test.YtlianjnmfgakkaaDoorDigC
import Derived.Test.YtlianjnmfgakkaaDoorMix
import Derived.Lib.OthersKept
import Derived.WalkMore
namespace Go.Proofs.YtlianjnmfgakkaaDoor
open Go.RowKit Go.Lib

/-- a text's bytes, as numbers -/
def nums (s : ByteArray) : List Int := s.data.toList.map fun b => (b.toNat : Int)
theorem nums_length (s : ByteArray) : (nums s).length = s.size := by simp [nums]
def isD (b : Int) : Bool := decide (48 ≤ b) && decide (b ≤ 57)
def nd (L : List Int) : Nat := (L.takeWhile isD).length
def sg (L : List Int) : Nat := if L.head? = some 45 then 1 else 0
def headEnd (L : List Int) : Nat := if nd (L.drop (sg L)) = 0 then 0 else sg L + nd (L.drop (sg L))

theorem nd_le (L : List Int) : nd L ≤ L.length := by
  unfold nd
  exact (List.takeWhile_sublist _).length_le
theorem nd_at : ∀ (L : List Int) (i : Nat), i < nd L → ∃ b, L[i]? = some b ∧ isD b = true
  | [], i, h => by simp [nd] at h
  | x :: L, i, h => by
    unfold nd at h
    rw [List.takeWhile_cons] at h
    split at h
    · rename_i hx
      cases i with
      | zero => exact ⟨x, rfl, hx⟩
      | succ i => exact nd_at L i (by simpa [nd] using h)
    · simp at h
theorem nd_stop : ∀ (L : List Int) (b : Int), L[nd L]? = some b → isD b = false
  | [], b, h => by simp at h
  | x :: L, b, h => by
    unfold nd at h
    rw [List.takeWhile_cons] at h
    split at h
    · rename_i hx
      exact nd_stop L b (by simpa [nd] using h)
    · rename_i hx
      simp at h
      subst h
      simpa using hx
theorem sg_le (L : List Int) : sg L ≤ 1 := by unfold sg; split <;> omega
theorem sg_one {L : List Int} (h : 0 < sg L) : L[0]? = some 45 := by
  unfold sg at h
  split at h
  · rename_i h1
    rw [← List.head?_eq_getElem?]
    exact h1
  · omega
theorem sg_zero {L : List Int} (h : sg L = 0) : L[0]? ≠ some 45 := by
  unfold sg at h
  split at h
  · omega
  · rename_i h1
    rw [← List.head?_eq_getElem?]
    exact h1

structure HInv (L : List Int) (pos e : Nat) : Prop where
  le : pos ≤ sg L + nd (L.drop (sg L))
  eq : e = if pos ≤ sg L then 0 else pos
theorem HInv.start (L : List Int) : HInv L 0 0 := ⟨Nat.zero_le _, by simp⟩
theorem HInv.stop {L : List Int} {pos e : Nat} (h : HInv L pos e) (hn : ∀ b, L[pos]? = some b → isD b = false ∧ (0 < pos ∨ b ≠ 45)) : e = headEnd L := by
  have h1 := h.le
  have h2 := sg_le L
  have h3 : pos = sg L + nd (L.drop (sg L)) := by
    by_cases hs : pos < sg L
    · have hp : pos = 0 := by omega
      subst hp
      obtain ⟨_, h5⟩ := hn 45 (sg_one hs)
      rcases h5 with h5 | h5
      · omega
      · exact absurd rfl h5
    · by_cases hlt : pos < sg L + nd (L.drop (sg L))
      · obtain ⟨b, hb, hd⟩ := nd_at (L.drop (sg L)) (pos - sg L) (by omega)
        rw [List.getElem?_drop] at hb
        have : sg L + (pos - sg L) = pos := by omega
        rw [this] at hb
        have := (hn b hb).1
        rw [hd] at this
        cases this
      · omega
  rw [h.eq]
  unfold headEnd
  by_cases h4 : nd (L.drop (sg L)) = 0
  · rw [if_pos (by omega), if_pos h4]
  · rw [if_neg (by omega), if_neg h4]
    exact h3
theorem HInv.dig {L : List Int} {pos e : Nat} (h : HInv L pos e) {b : Int} (hb : L[pos]? = some b) (hd : isD b = true) : HInv L (pos + 1) (pos + 1) := by
  have h1 := h.le
  have h2 := sg_le L
  have hs : sg L ≤ pos := by
    rcases Nat.lt_or_ge pos (sg L) with hs | hs
    · have hp : pos = 0 := by omega
      subst hp
      rw [sg_one hs] at hb
      cases hb
      cases hd
    · exact hs
  have hne : pos ≠ sg L + nd (L.drop (sg L)) := by
    intro e
    have := nd_stop (L.drop (sg L)) b (by rw [List.getElem?_drop, ← e]; exact hb)
    rw [hd] at this
    cases this
  exact ⟨by omega, by rw [if_neg (by omega)]⟩
theorem HInv.sign {L : List Int} {e : Nat} (hb : L[0]? = some 45) (h : HInv L 0 e) : HInv L 1 0 := by
  have : sg L = 1 := by
    unfold sg
    rw [List.head?_eq_getElem?, hb]
    simp
  exact ⟨by omega, by rw [if_pos (by omega)]⟩
theorem headEnd_le (L : List Int) : headEnd L ≤ L.length := by
  unfold headEnd
  have h1 := nd_le (L.drop (sg L))
  rw [List.length_drop] at h1
  split
  · omega
  · rename_i h
    have : 0 < (L.length - sg L) := by omega
    omega

theorem at_byte {s : ByteArray} {pos : Nat} (h : pos < s.size) : (nums s)[pos]? = some (((s[pos]'h).toNat : Nat) : Int) := by
  unfold nums
  rw [List.getElem?_map]
  have : s.data.toList[pos]? = some (s[pos]'h) := by
    rw [Array.getElem?_toList]
    exact Array.getElem?_eq_getElem (by exact h)
  rw [this]
  rfl
/-- the letter at a place, of its byte -/
theorem letter_at {s : ByteArray} {pos : Nat} (h : pos < s.size) : ∃ b : Nat, (nums s)[pos]? = some (b : Int) ∧ b < 256 ∧ (b < 128 → Utf8.decode s pos = (b, 1)) ∧ (128 ≤ b → 128 ≤ (Utf8.decode s pos).1 ∧ 1 ≤ (Utf8.decode s pos).2) :=
  ⟨(s[pos]'h).toNat, at_byte h, (s[pos]'h).toNat_lt, fun ha => decode_ascii s pos h ha, fun ha => decode_high s pos h ha⟩

set_option maxHeartbeats 2000000 in
theorem head_any (s : ByteArray) (hl : s.size ≤ 1000000000) (w : World) :
    Calls Tryd.prog 54 #[.string s] w fun e w' => e = .returned (.tuple #[.string (s.extract 0 (headEnd (nums s))), .string (s.extract (headEnd (nums s)) s.size)]) ∧ Ext w w' := by
  go_enter Tryd.func54, Tryd.ntmps54
  go_wp2
  go_step3
  go_wp2
  go_step3
  go_wp2
  go_loopw [4] (fun i wr => ∃ pos e : Nat, i = .int .i64 e ∧ e ≤ pos ∧ pos ≤ s.size ∧ Hid (HInv (nums s) pos e) ∧ Hid (wr.heap[w.heap.size]? = some (.stringIter s pos)) ∧ Ext w wr) (fun _ wr => s.size - wr.iterPos w.heap.size)
  case atStart => exact ⟨0, 0, rfl, Nat.le_refl _, Nat.zero_le _, hide (HInv.start _), hide (World.iter_heap w s 0), (Below.refl _ _).alloc (Nat.le_refl _) _⟩
  case round =>
    obtain ⟨pos, e, rfl, hep, hps, hI, hit, hB⟩ := hrel
    have hsz := hB.size
    by_cases hp : pos < s.size
    · have hnx : ∀ ty, (Instr.next (.pointer (some ⟨w.heap.size, 0, none⟩)) true ty).run Tryd.prog wr = _ := fun ty => run_next_any_at wr w.heap.size s pos ty hit.out hp
      obtain ⟨b, hb, hb1, hb2, hb3⟩ := letter_at hp
      have hd1 := decode_le s pos
      generalize hdd : Utf8.decode s pos = dd at *
      obtain ⟨d, wd⟩ := dd
      replace hdd := hide hdd
      simp only at hnx hd1 hb3
      have hit' := hide (iterAt_heap wr w.heap.size s pos (pos + wd) hit.out)
      have hB' : Ext w (wr.iterAt w.heap.size s (pos + wd)) := below_iterAt hB (Nat.le_refl _) s (pos + wd)
      have hsz' : w.heap.size ≤ (wr.iterAt w.heap.size s (pos + wd)).heap.size := hB'.size
      have hps' : pos + 1 ≤ s.size := hp
      have hwp : IntKind.i64.wrap ((pos : Int) + 1) = (pos : Int) + 1 := IntWalk.i64_in _ (by omega)
      obtain ⟨wr2, hwr2⟩ : ∃ wr2, wr2 = wr.iterAt w.heap.size s (pos + wd) := ⟨_, rfl⟩
      rw [← hwr2] at hnx hit' hB' hsz'
      have hmeas : wd = 1 → wr2.iterPos w.heap.size = pos + 1 ∧ wr.iterPos w.heap.size = pos := by
        intro h
        subst h
        exact ⟨by simp only [World.iterPos, hit'.out], by simp only [World.iterPos, hit.out]⟩
      replace hwr2 := hide hwr2
      replace hmeas := hide hmeas
      by_cases hdg : 48 ≤ d ∧ d ≤ 57
      · have hbd : b = d ∧ wd = 1 := by
          have h1 : b < 128 := by
            rcases Nat.lt_or_ge b 128 with h | h
            · exact h
            · have := hb3 h; omega
          have := hb2 h1
          injection this with h2 h3
          exact ⟨h2.symm, h3⟩
        obtain ⟨rfl, rfl⟩ := hbd
        have hdt : (decide (48 ≤ (b : Int)) && decide ((b : Int) ≤ 57)) = true := by simp; omega
        have hI' : Hid (HInv (nums s) (pos + 1) (pos + 1)) := hide (hI.out.dig hb hdt)
        clear hb2 hb3
        replace hb := hide hb
        go_wp2_with fail
        refine (digit_any b _).mono ?_
        rintro e' w2 ⟨rfl, rfl⟩
        rw [hdt]
        go_wp2
        refine ⟨⟨pos + 1, pos + 1, by go_num, Nat.le_refl _, hps', hI', hit', hB'⟩, ?_⟩
        have := hmeas.out (by simp)
        omega
      · have hdt : (decide (48 ≤ (d : Int)) && decide ((d : Int) ≤ 57)) = false := by simp; omega
        by_cases hcont : pos = 0 ∧ d = 45
        · obtain ⟨rfl, rfl⟩ := hcont
          have hbd : b = 45 ∧ wd = 1 := by
            have h1 : b < 128 := by
              rcases Nat.lt_or_ge b 128 with h | h
              · exact h
              · have := hb3 h; omega
            have := hb2 h1
            injection this with h2 h3
            exact ⟨h2.symm, h3⟩
          obtain ⟨rfl, rfl⟩ := hbd
          have he0 : e = 0 := by omega
          subst he0
          have hI' : Hid (HInv (nums s) 1 0) := hide (hI.out.sign hb)
          clear hb2 hb3
          replace hb := hide hb
          go_wp2_with fail
          refine (digit_any 45 _).mono ?_
          rintro e' w2 ⟨rfl, rfl⟩
          rw [show (decide ((48 : Int) ≤ 45) && decide ((45 : Int) ≤ 57)) = false by decide]
          go_wp2
          refine ⟨⟨1, 0, by go_num, Nat.zero_le _, hps', hI', hit', hB'⟩, ?_⟩
          have := hmeas.out (by simp)
          omega
        · have he : e = headEnd (nums s) := hI.out.stop (fun b' hb' => by
            rw [hb] at hb'
            cases hb'
            have hbx : isD (b : Int) = false ∧ (b = 45 → d = 45) := by
              rcases Nat.lt_or_ge b 128 with h | h
              · have := hb2 h
                injection this with h2 h3
                subst h2
                exact ⟨hdt, id⟩
              · exact ⟨by unfold isD; simp; omega, by omega⟩
            refine ⟨hbx.1, ?_⟩
            by_cases hp0 : pos = 0
            · right
              intro h
              exact hcont ⟨hp0, hbx.2 (by omega)⟩
            · left; omega)
          have hle : e ≤ s.size := by omega
          clear hb2 hb3
          replace hb := hide hb
          replace he := hide he
          by_cases hp0 : pos = 0
          · subst hp0
            have hd45 : ¬ (d : Int) = 45 := by omega
            go_wp2_with fail
            refine (digit_any d _).mono ?_
            rintro e' w2 ⟨rfl, rfl⟩
            rw [hdt]
            go_wp2
            refine wp_region_reads [(0, true), (1, true), (2, true), (3, true), (4, true), (5, true), (6, true), (7, true)] (by kernel_rfl) (by kernel_rfl) (by kernel_rfl) (by kernel_rfl) (fun _ _ d _ _ h => by cases d <;> exact h) ?_
            iterate 8
              apply mix_q rfl rfl
              · intro W hW
                subst hW
                go_simp
                try exact rfl
              simp only [Act.put, List.setIfInBounds_toArray, List.set_cons_zero, List.set_cons_succ]
            refine mix_nil ?_
            go_wp2
            rw [Exit.noGoto_ret]
            go_ret2
            exact ⟨by rw [← he.out]; rfl, hB'.drew⟩
          · have hp1 : (0 : Int) < (pos : Int) := by omega
            have hp2 : 0 < pos := by omega
            go_wp2_with fail
            refine (digit_any d _).mono ?_
            rintro e' w2 ⟨rfl, rfl⟩
            rw [hdt]
            go_wp2
            refine wp_region_reads [(0, true), (1, true), (2, true), (3, true), (4, true), (5, true), (6, true), (7, true)] (by kernel_rfl) (by kernel_rfl) (by kernel_rfl) (by kernel_rfl) (fun _ _ d _ _ h => by cases d <;> exact h) ?_
            iterate 8
              apply mix_q rfl rfl
              · intro W hW
                subst hW
                go_simp
                try exact rfl
              simp only [Act.put, List.setIfInBounds_toArray, List.set_cons_zero, List.set_cons_succ]
            refine mix_nil ?_
            go_wp2
            rw [Exit.noGoto_ret]
            go_ret2
            exact ⟨by rw [← he.out]; rfl, hB'.drew⟩
    · have hnx : ∀ ty, (Instr.next (.pointer (some ⟨w.heap.size, 0, none⟩)) true ty).run Tryd.prog wr = _ := fun ty => run_next_end_at wr w.heap.size s pos ty hit.out hp
      have he : e = headEnd (nums s) := hI.out.stop (fun b hb => by
        have := (List.getElem?_eq_some_iff.1 hb).1
        rw [nums_length] at this
        exact absurd this hp)
      have hle : e ≤ s.size := by omega
      replace he := hide he
      go_wp2
      refine wp_region_reads [(0, true), (1, true), (2, true), (3, true), (4, true), (5, true), (6, true), (7, true)] (by kernel_rfl) (by kernel_rfl) (by kernel_rfl) (by kernel_rfl) (fun _ _ d _ _ h => by cases d <;> exact h) ?_
      iterate 8
        apply mix_q rfl rfl
        · intro W hW
          subst hW
          go_simp
          try exact rfl
        simp only [Act.put, List.setIfInBounds_toArray, List.set_cons_zero, List.set_cons_succ]
      refine mix_nil ?_
      go_wp2
      rw [Exit.noGoto_ret]
      go_ret2
      exact ⟨by rw [← he.out]; rfl, hB.drew⟩
end Go.Proofs.YtlianjnmfgakkaaDoor
