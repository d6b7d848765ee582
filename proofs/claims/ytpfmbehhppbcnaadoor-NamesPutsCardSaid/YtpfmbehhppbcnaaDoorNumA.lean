/- names: the names of a table that are met for the first time, in plain Lean, and the map of those met. -/
import Derived.Test.YtpfmbehhppbcnaaDoorSmap
import Derived.Test.YtpfmbehhppbcnaaDoorLexE
import Derived.Test.YtpfmbehhppbcnaaDoorMixW
namespace Go.Proofs.YtpfmbehhppbcnaaDoor
open Go.RowKit

/-- each name once, where it is first -/
def dd (l : List ByteArray) : List ByteArray := l.foldl (fun out x => if x ∈ out then out else out ++ [x]) []
theorem dd_snoc (l : List ByteArray) (x : ByteArray) : dd (l ++ [x]) = if x ∈ dd l then dd l else dd l ++ [x] := by unfold dd; rw [List.foldl_append]; rfl
theorem snocI {α : Type} {p : List α → Prop} (h0 : p []) (h1 : ∀ l x, p l → p (l ++ [x])) (l : List α) : p l := by
  have : ∀ n : Nat, ∀ l : List α, l.length = n → p l := by
    intro n
    induction n with
    | zero => intro l hl; rw [List.length_eq_zero_iff.1 hl]; exact h0
    | succ n ih =>
      intro l hl
      rcases List.eq_nil_or_concat l with rfl | ⟨ys, y, rfl⟩
      · simp at hl
      · rw [List.concat_eq_append] at hl ⊢
        exact h1 ys y (ih ys (by simpa using hl))
  exact this _ l rfl
theorem mem_dd (l : List ByteArray) : ∀ x, x ∈ dd l ↔ x ∈ l := by
  induction l using snocI with
  | h0 => intro x; simp [dd]
  | h1 l y ih =>
    intro x
    rw [dd_snoc]
    split
    · rename_i hy
      rw [List.mem_append, List.mem_singleton, ih]
      constructor
      · exact .inl
      · rintro (h | rfl)
        · exact h
        · exact (ih _).1 hy
    · rw [List.mem_append, List.mem_append, ih]
theorem dd_nodup (l : List ByteArray) : (dd l).Nodup := by
  induction l using snocI with
  | h0 => simp [dd]
  | h1 l y ih =>
    rw [dd_snoc]
    split
    · exact ih
    · rename_i hy
      rw [List.nodup_append]
      exact ⟨ih, by simp, fun a ha b hb e => hy (by rw [List.mem_singleton] at hb; rw [← hb, ← e]; exact ha)⟩
theorem dd_le (l : List ByteArray) : (dd l).length ≤ l.length := by
  induction l using snocI with
  | h0 => simp [dd]
  | h1 l y ih => rw [dd_snoc]; split <;> simp <;> omega
theorem dd_self (l : List ByteArray) : l.Nodup → dd l = l := by
  induction l using snocI with
  | h0 => intro _; rfl
  | h1 l y ih =>
    intro h
    rw [List.nodup_append] at h
    have hy : y ∉ l := fun hm => h.2.2 y hm y (by simp) rfl
    rw [dd_snoc, ih h.1, if_neg hy]
theorem dd_full {l : List ByteArray} : (dd l).length = l.length ↔ l.Nodup := by
  constructor
  · induction l using snocI with
    | h0 => intro _; exact List.nodup_nil
    | h1 l y ih =>
      intro h
      rw [dd_snoc] at h
      have h1 := dd_le l
      split at h
      · simp at h; omega
      · rename_i hy
        have h2 : (dd l).length = l.length := by simpa using h
        rw [List.nodup_append]
        exact ⟨ih h2, by simp, fun a ha b hb e => hy ((mem_dd l y).2 (by rw [List.mem_singleton] at hb; rw [← hb, ← e]; exact ha))⟩
  · intro h; rw [dd_self l h]
/-- what is told: how many there are by then, and the name -/
def nm (l : List ByteArray) : List (Nat × ByteArray) := (List.range l.length).map fun j => (j + 1, l.getD j ByteArray.empty)
theorem nm_snoc (l : List ByteArray) (x : ByteArray) : nm (l ++ [x]) = nm l ++ [(l.length + 1, x)] := by
  unfold nm
  rw [List.length_append, List.length_singleton, List.range_succ, List.map_append, List.map_singleton]
  congr 1
  · refine List.map_congr_left fun j hj => ?_
    rw [List.mem_range] at hj
    rw [List.getD_eq_getElem?_getD, List.getD_eq_getElem?_getD, List.getElem?_append_left hj]
  · rw [List.getD_eq_getElem?_getD, List.getElem?_append_right (Nat.le_refl _)]
    simp
theorem nm_length (l : List ByteArray) : (nm l).length = l.length := by unfold nm; simp
def tm (ks : List ByteArray) : List (ByteArray × Value) := ks.map fun k => (k, Value.bool true)
theorem tm_keys (ks : List ByteArray) : (tm ks).map (·.1) = ks := by unfold tm; rw [List.map_map]; exact List.map_id' ks
theorem tm_snoc (ks : List ByteArray) (x : ByteArray) : tm (ks ++ [x]) = tm ks ++ [(x, .bool true)] := by simp [tm]
theorem mapTyB : Tryd.prog.underlying 66 = some (.map 9 4) := by kernel_rfl
theorem strTy : Tryd.prog.underlying 9 = some .string := by kernel_rfl
theorem zero_boolN (w : World) : (zeroValue 4).run Tryd.prog w = .ok (.bool false) w := by kernel_rfl
/-- is it met for the first time? -/
theorem firstMet_any (x : ByteArray) (b3 m : Nat) (xs : List ByteArray) (w : World) (hc : w.cell? ⟨b3, 0, none⟩ = some (.map (some m))) (hb : b3 < w.heap.size) (h : SMap w m (tm (dd xs))) :
    Calls Tryd.prog 34 #[.string x, .pointer (some ⟨b3, 0, none⟩)] w fun e w' => e = .returned (.bool (!decide (x ∈ dd xs))) ∧ SMap w' m (tm (dd (xs ++ [x]))) ∧ w.grownBy w' (some m) ∧ w'.heap.size = w.heap.size := by
  have hmb : b3 ≠ m := by
    intro e
    subst e
    obtain ⟨es, clock, h1, -⟩ := h
    unfold World.cell? at hc
    rw [h1] at hc
    simp at hc
  by_cases hx : x ∈ dd xs
  · obtain ⟨j, hj⟩ := List.mem_iff_getElem?.1 hx
    have hj2 : (tm (dd xs))[j]? = some (x, .bool true) := by unfold tm; rw [List.getElem?_map, hj]; rfl
    have hn : ((tm (dd xs)).map (·.1)).Nodup := by rw [tm_keys]; exact dd_nodup xs
    have hl := h.look_at (P := Tryd.prog) mapTyB strTy hn hj2 false
    obtain ⟨w', hp, hs, hg, hz⟩ := h.put_at (P := Tryd.prog) mapTyB strTy hn hj2
    have hd : Hid (decide (x ∈ dd xs) = true) := hide (decide_eq_true hx)
    have he : Hid (dd (xs ++ [x]) = dd xs) := hide (by rw [dd_snoc, if_pos hx])
    replace hs := hide hs
    replace hg := hide hg
    replace hz := hide hz
    replace h := hide h
    replace hx := hide hx
    clear hj hj2 hn
    go_enter Tryd.func34, Tryd.ntmps34
    go_wp2_with (first | (at_lookup; refine wpList_look rfl (.tmp 5) (.tmp 6) rfl rfl rfl hl ?_) | (at_mapUpdate; refine wpList_put rfl (.tmp 8) (.tmp 9) (.const (.bool true)) rfl rfl rfl hp ?_) | fail)
    go_ret
    exact ⟨by rw [hd.out]; rfl, by rw [he.out]; exact hs.out, hg.out, hz.out⟩
  · have hx' : x ∉ (tm (dd xs)).map (·.1) := by rw [tm_keys]; exact hx
    have hl := h.look_new (P := Tryd.prog) mapTyB strTy (zero_boolN w) hx' false
    obtain ⟨w', hp, hs, hg, hz⟩ := h.put_new (P := Tryd.prog) mapTyB strTy (.bool true) hx'
    have hd : Hid (decide (x ∈ dd xs) = false) := hide (decide_eq_false hx)
    have he : Hid (tm (dd (xs ++ [x])) = tm (dd xs) ++ [(x, .bool true)]) := hide (by rw [dd_snoc, if_neg hx, tm_snoc])
    replace hs := hide hs
    replace hg := hide hg
    replace hz := hide hz
    replace h := hide h
    replace hx := hide hx
    clear hx'
    go_enter Tryd.func34, Tryd.ntmps34
    go_wp2_with (first | (at_lookup; refine wpList_look rfl (.tmp 5) (.tmp 6) rfl rfl rfl hl ?_) | (at_mapUpdate; refine wpList_put rfl (.tmp 8) (.tmp 9) (.const (.bool true)) rfl rfl rfl hp ?_) | fail)
    go_ret
    exact ⟨by rw [hd.out]; rfl, by rw [he.out]; exact hs.out, hg.out, hz.out⟩
theorem enter_firstMet (args : Array Value) (w : World) : (callFunc 34 args).run Tryd.prog w = .ok (.enter 34 args) w := enters_of Tryd.func34 (by kernel_rfl) rfl args w
end Go.Proofs.YtpfmbehhppbcnaaDoor
