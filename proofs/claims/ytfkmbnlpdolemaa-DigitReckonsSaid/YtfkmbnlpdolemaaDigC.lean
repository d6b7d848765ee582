/- The text of a number: its digits; the contract of digit.Text. -/
import Derived.Test.YtfkmbnlpdolemaaDigB
import Derived.Test.YtfkmbnlpdolemaaOwn
import Derived.Laws.BytesString
namespace Go.Proofs.Ytfkmbnlpdolemaa
open Go.RowKit

/-- the digits of a number from 0 on, as letters -/
def dig (m : Nat) : List Int := if m < 10 then [48 + (m : Int)] else dig (m / 10) ++ [48 + ((m % 10 : Nat) : Int)]
termination_by m
def txt (n : Int) : List Int := if n < 0 then 45 :: dig n.natAbs else dig n.natAbs
/-- the bytes of a text, from their numbers -/
def bs (l : List Int) : ByteArray := ⟨(l.map fun n => UInt8.ofNat n.toNat).toArray⟩
theorem bs_foldl : ∀ (l : List Int) (s : ByteArray), l.foldl (fun r n => r.push (UInt8.ofNat n.toNat)) s = ⟨s.data ++ (l.map fun n => UInt8.ofNat n.toNat).toArray⟩
  | [], s => by cases s; simp
  | n :: l, s => by
    rw [List.foldl_cons, bs_foldl l]
    congr 1
    cases s
    simp [ByteArray.push]
theorem bs_eq (l : List Int) : l.foldl (fun r n => r.push (UInt8.ofNat n.toNat)) ByteArray.empty = bs l := by
  rw [bs_foldl]
  unfold bs
  congr 1
  show #[] ++ _ = _
  simp
/-- what is still to be written of a number -/
def togo (first : Bool) (m : Nat) : List Int := if first = true ∨ 0 < m then dig m else []
theorem togo_step {first : Bool} {m : Nat} (h : first = true ∨ 0 < m) : togo first m = togo false (m / 10) ++ [48 + ((m % 10 : Nat) : Int)] := by
  unfold togo
  rw [if_pos h, dig]
  split
  · rename_i h1
    have : m / 10 = 0 := by omega
    have h2 : m % 10 = m := by omega
    rw [this, if_neg (by simp), h2]
    rfl
  · rw [if_pos (by right; omega)]
theorem dig_length : ∀ (f m : Nat), m ≤ f → (dig m).length ≤ m + 1
  | 0, m, h => by
    have : m = 0 := by omega
    subst this
    rw [dig]
    simp
  | f + 1, m, h => by
    rw [dig]
    split
    · simp
    · have := dig_length f (m / 10) (by omega)
      simp only [List.length_append, List.length_cons, List.length_nil]
      omega

theorem dig_le : ∀ (k m : Nat), m < 10 ^ k → 0 < k → (dig m).length ≤ k
  | 0, _, _, h => by omega
  | k + 1, m, h, _ => by
    rw [dig]
    split
    · simp
    · have hk : 0 < k := by
        rcases Nat.eq_zero_or_pos k with rfl | h'
        · simp at h; omega
        · exact h'
      have := dig_le k (m / 10) (by rw [Nat.pow_succ] at h; omega) hk
      simp only [List.length_append, List.length_cons, List.length_nil]
      omega

/-- bytes, as numbers -/
def u8E : El Int := ⟨fun x => [.int .u8 x], 1, fun _ => rfl, by decide, fun x u hu => by simp at hu; subst hu; rfl⟩
theorem u8E_row : ∀ l : List Int, u8E.row l = l.map (.int .u8)
  | [] => rfl
  | x :: l => by rw [u8E.row_cons, u8E_row l]; rfl
theorem tyU8 : Ty Try.prog u8E 50 5 1 := ty_of (z := .int .u8 0) (sz := 1) (by kernel_rfl) (by kernel_rfl) rfl rfl (by decide)
theorem text_of {B : Nat} {w : World} {A : Option Addr} {xs : List Int} {n c : Nat} (h : Rd u8E B w A xs) (hn : n = xs.length) :
    (convert 50 9 (.slice A n c)).run Try.prog w = .ok (.string (bs xs)) w := by
  subst hn
  rw [run_convert_bytes_string w 50 9 5 A xs.length c (by kernel_rfl) (by kernel_rfl) (by kernel_rfl)]
  rcases h with rfl | ⟨b, off, rfl, h⟩
  · cases A with
    | none => simp [Conv.bytesToString, bs]; rfl
    | some a =>
      exact run_bytesToString w a 0 c [] (by simp [loadCells, loadCellsFrom])
  · rw [← bs_eq]
    refine run_bytesToString w _ _ _ xs ?_
    have := run_loadCells_list (P := Try.prog) w ⟨b, off, none⟩ (xs.map (.int .u8)) (fun j v hv => by
      refine h.cells j v ?_
      rw [u8E_row]
      exact hv)
    simpa using this

def ofB : Value → Nat
  | .bool true => 1
  | _ => 0
set_option maxHeartbeats 2000000 in
theorem text_any (n : Int) (hn : in64 n) (w : World) :
    Calls Try.prog 9 #[.int .i64 n] w fun e w' => e = .returned (.string (bs (txt n))) ∧ Ext w w' := by
  obtain ⟨N, hN⟩ : ∃ N, N = n.natAbs := ⟨_, rfl⟩
  have hNl : N ≤ 9223372036854775808 := by unfold in64 at hn; omega
  have hu : n < 0 → IntKind.u64.wrap (-IntKind.u64.wrap n) = (N : Int) := by
    intro h
    unfold in64 at hn
    rw [IntKind.wrap_u64, IntKind.wrap_u64]
    omega
  have hv : ¬ n < 0 → IntKind.u64.wrap n = (N : Int) := by
    intro h
    unfold in64 at hn
    rw [IntKind.wrap_u64]
    omega
  replace hn := hide hn
  by_cases h0 : n < 0
  · have hu := hu h0
    clear hv
    replace hN := hide hN
    go_enter Try.func9, Try.ntmps9
    go_wp2
    go_loopw [3, 4, 5] (fun i3 i4 i5 wr => ∃ (m : Nat) (acc : List Int) (first : Bool), i3 = .int .u64 m ∧ i5 = .bool first ∧ m ≤ N ∧ Hid (Own u8E 5 w.heap.size wr i4 acc) ∧ Hid (togo first m ++ acc = dig N) ∧ Ext w wr) (fun i3 _ i5 _ => (intOf i3).toNat + ofB i5)
    case atStart => exact ⟨N, [], true, rfl, rfl, Nat.le_refl _, hide Own.nil_, hide (by simp [togo]), Below.refl _ _⟩
    case round =>
      obtain ⟨m, acc, first, rfl, rfl, hm, hO, hT, hB⟩ := hrel
      have hsz := hB.size
      by_cases hgo : first = true ∨ 0 < m
      · obtain ⟨A, c, rfl, rd, hc, -⟩ := hO.out.rd
        have hlen : acc.length ≤ 20 := by
          have := congrArg List.length hT.out
          have := dig_le 19 N (by omega) (by decide)
          rw [List.length_append] at *
          omega
        have hT' := hT.out
        rw [togo_step hgo, List.append_assoc] at hT'
        replace hT' := hide hT'
        obtain ⟨q, hq⟩ : ∃ q, q = acc.length := ⟨_, rfl⟩
        rw [← hq] at hO hc hlen ⊢
        replace hq := hide hq
        replace rd := hide rd
        have hgo' : (first || decide (0 < (m : Int))) = true := by
          rcases hgo with h | h
          · simp [h]
          · simp; right; omega
        replace hgo := hide hgo
        have hon := own_new (base := w.heap.size) (e := 5) u8E wr (48 + (m : Int) % 10) wr.heap.size rfl hsz
        replace hon := hide hon
        have rdn := rd.out.ext (w' := wr.alloc (.cells (u8E.cs (48 + (m : Int) % 10)).toArray 5)) ((Below.refl _ _).alloc (Nat.le_refl _) _)
        replace rdn := hide rdn
        cases first
        · have hm0 : 0 < m := by have := hgo.out; simpa using this
          go_wp2_with (at_builtin; refine wpList_app tyU8 rfl (.tmp 21) (.tmp 22) rfl rfl hon.out rfl rdn.out hq.out (by rw [← hq.out]; simp; omega) (by simp; omega) ?_)
          intro v' w' hown' hg hne' hnil
          have hB' : Ext w w' := Own.below hon.out (hB.alloc hsz _) hg (by simp; omega)
          replace hown' := hide hown'
          clear hne' hnil
          have hT2 : Hid (togo false (m / 10) ++ ([48 + (m : Int) % 10] ++ acc) = dig N) := hide (by have := hT'.out; simpa using this)
          clear hT' hT hon rdn hgo hgo'
          go_wp2
          refine ⟨⟨m / 10, [48 + (m : Int) % 10] ++ acc, false, congrArg (Value.int .u64) (by omega), rfl, by omega, hown', hT2, hB'⟩, ?_⟩
          simp [intOf, ofB]
          try omega
        · go_wp2_with (at_builtin; refine wpList_app tyU8 rfl (.tmp 21) (.tmp 22) rfl rfl hon.out rfl rdn.out hq.out (by rw [← hq.out]; simp; omega) (by simp; omega) ?_)
          intro v' w' hown' hg hne' hnil
          have hB' : Ext w w' := Own.below hon.out (hB.alloc hsz _) hg (by simp; omega)
          replace hown' := hide hown'
          clear hne' hnil
          have hT2 : Hid (togo false (m / 10) ++ ([48 + (m : Int) % 10] ++ acc) = dig N) := hide (by have := hT'.out; simpa using this)
          clear hT' hT hon rdn hgo hgo'
          go_wp2
          refine ⟨⟨m / 10, [48 + (m : Int) % 10] ++ acc, false, congrArg (Value.int .u64) (by omega), rfl, by omega, hown', hT2, hB'⟩, ?_⟩
          simp [intOf, ofB]
          try omega
      · obtain ⟨rfl, rfl⟩ : first = false ∧ m = 0 := by cases first <;> simp at hgo ⊢; omega
        obtain ⟨A, c, rfl, rd, hc, -⟩ := hO.out.rd
        have hT' : acc = dig N := by have := hT.out; simpa [togo] using this
        replace hT' := hide hT'
        have hlen : acc.length ≤ 20 := by
          have := dig_le 19 N (by omega) (by decide)
          rw [hT'.out]
          omega
        obtain ⟨q, hq⟩ : ∃ q, q = acc.length := ⟨_, rfl⟩
        rw [← hq] at hO hc hlen ⊢
        replace hq := hide hq
        replace rd := hide rd
        clear hT
        have hon := own_new (base := w.heap.size) (e := 5) u8E wr 45 wr.heap.size rfl hsz
        replace hon := hide hon
        have rdn := rd.out.ext (w' := wr.alloc (.cells (u8E.cs 45).toArray 5)) ((Below.refl _ _).alloc (Nat.le_refl _) _)
        replace rdn := hide rdn
        go_wp2_with (at_builtin; refine wpList_app tyU8 rfl (.tmp 28) (.tmp 29) rfl rfl hon.out rfl rdn.out hq.out (by rw [← hq.out]; simp; omega) (by simp; omega) ?_)
        intro v' w' hown' hg hne' hnil
        have hB' : Ext w w' := Own.below hon.out (hB.alloc hsz _) hg (by simp; omega)
        replace hown' := hide hown'
        clear hne' hnil
        obtain ⟨A', c', rfl, rd', -, -⟩ := hown'.out.rd
        replace rd' := hide rd'
        generalize hq' : (45 :: acc).length = q' at *
        replace hq' := hide hq'.symm
        clear hown' hon rdn rd hO
        go_wp2_with (simp only [text_of rd'.out hq'.out])

        go_ret
        exact ⟨by rw [show txt n = 45 :: acc by unfold txt; rw [if_pos (by omega), hT'.out, hN.out]]; rfl, hB'⟩
  · have hv := hv h0
    clear hu
    replace hN := hide hN
    go_enter Try.func9, Try.ntmps9
    go_wp2
    go_loopw [3, 4, 5] (fun i3 i4 i5 wr => ∃ (m : Nat) (acc : List Int) (first : Bool), i3 = .int .u64 m ∧ i5 = .bool first ∧ m ≤ N ∧ Hid (Own u8E 5 w.heap.size wr i4 acc) ∧ Hid (togo first m ++ acc = dig N) ∧ Ext w wr) (fun i3 _ i5 _ => (intOf i3).toNat + ofB i5)
    case atStart => exact ⟨N, [], true, rfl, rfl, Nat.le_refl _, hide Own.nil_, hide (by simp [togo]), Below.refl _ _⟩
    case round =>
      obtain ⟨m, acc, first, rfl, rfl, hm, hO, hT, hB⟩ := hrel
      have hsz := hB.size
      by_cases hgo : first = true ∨ 0 < m
      · obtain ⟨A, c, rfl, rd, hc, -⟩ := hO.out.rd
        have hlen : acc.length ≤ 20 := by
          have := congrArg List.length hT.out
          have := dig_le 19 N (by omega) (by decide)
          rw [List.length_append] at *
          omega
        have hT' := hT.out
        rw [togo_step hgo, List.append_assoc] at hT'
        replace hT' := hide hT'
        obtain ⟨q, hq⟩ : ∃ q, q = acc.length := ⟨_, rfl⟩
        rw [← hq] at hO hc hlen ⊢
        replace hq := hide hq
        replace rd := hide rd
        have hgo' : (first || decide (0 < (m : Int))) = true := by
          rcases hgo with h | h
          · simp [h]
          · simp; right; omega
        replace hgo := hide hgo
        have hon := own_new (base := w.heap.size) (e := 5) u8E wr (48 + (m : Int) % 10) wr.heap.size rfl hsz
        replace hon := hide hon
        have rdn := rd.out.ext (w' := wr.alloc (.cells (u8E.cs (48 + (m : Int) % 10)).toArray 5)) ((Below.refl _ _).alloc (Nat.le_refl _) _)
        replace rdn := hide rdn
        cases first
        · have hm0 : 0 < m := by have := hgo.out; simpa using this
          go_wp2_with (at_builtin; refine wpList_app tyU8 rfl (.tmp 21) (.tmp 22) rfl rfl hon.out rfl rdn.out hq.out (by rw [← hq.out]; simp; omega) (by simp; omega) ?_)
          intro v' w' hown' hg hne' hnil
          have hB' : Ext w w' := Own.below hon.out (hB.alloc hsz _) hg (by simp; omega)
          replace hown' := hide hown'
          clear hne' hnil
          have hT2 : Hid (togo false (m / 10) ++ ([48 + (m : Int) % 10] ++ acc) = dig N) := hide (by have := hT'.out; simpa using this)
          clear hT' hT hon rdn hgo hgo'
          go_wp2
          refine ⟨⟨m / 10, [48 + (m : Int) % 10] ++ acc, false, congrArg (Value.int .u64) (by omega), rfl, by omega, hown', hT2, hB'⟩, ?_⟩
          simp [intOf, ofB]
          try omega
        · go_wp2_with (at_builtin; refine wpList_app tyU8 rfl (.tmp 21) (.tmp 22) rfl rfl hon.out rfl rdn.out hq.out (by rw [← hq.out]; simp; omega) (by simp; omega) ?_)
          intro v' w' hown' hg hne' hnil
          have hB' : Ext w w' := Own.below hon.out (hB.alloc hsz _) hg (by simp; omega)
          replace hown' := hide hown'
          clear hne' hnil
          have hT2 : Hid (togo false (m / 10) ++ ([48 + (m : Int) % 10] ++ acc) = dig N) := hide (by have := hT'.out; simpa using this)
          clear hT' hT hon rdn hgo hgo'
          go_wp2
          refine ⟨⟨m / 10, [48 + (m : Int) % 10] ++ acc, false, congrArg (Value.int .u64) (by omega), rfl, by omega, hown', hT2, hB'⟩, ?_⟩
          simp [intOf, ofB]
          try omega
      · obtain ⟨rfl, rfl⟩ : first = false ∧ m = 0 := by cases first <;> simp at hgo ⊢; omega
        obtain ⟨A, c, rfl, rd, hc, -⟩ := hO.out.rd
        have hT' : acc = dig N := by have := hT.out; simpa [togo] using this
        replace hT' := hide hT'
        have hlen : acc.length ≤ 20 := by
          have := dig_le 19 N (by omega) (by decide)
          rw [hT'.out]
          omega
        obtain ⟨q, hq⟩ : ∃ q, q = acc.length := ⟨_, rfl⟩
        rw [← hq] at hO hc hlen ⊢
        replace hq := hide hq
        replace rd := hide rd
        clear hT
        go_wp2_with (simp only [text_of rd.out hq.out])
        go_ret
        exact ⟨by rw [show txt n = acc by unfold txt; rw [if_neg (by omega), hT'.out, hN.out]]; rfl, hB⟩
end Go.Proofs.Ytfkmbnlpdolemaa
