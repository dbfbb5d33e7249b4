/- A text cut into blocks byte by byte: what the array of 64 bytes holds. Plain. -/
import Derived.Test.YteicjpjniaohhaaShaEv
namespace Scv
/-- of the bytes so far, those behind the last whole block lie at the array's head -/
def Part (m c : List UInt8) : Prop := c.length = 64 ∧ c.take (m.length % 64) = m.drop (64 * (m.length / 64))
theorem part_nil (c : List UInt8) (h : c.length = 64) : Part [] c := ⟨h, by simp⟩
theorem part_step {m c : List UInt8} (h : Part m c) (x : UInt8) : (m.length % 64 ≠ 63 → Part (m ++ [x]) (c.set (m.length % 64) x)) ∧
    (m.length % 64 = 63 → c.set (m.length % 64) x = blk (m ++ [x]) (m.length / 64) ∧ Part (m ++ [x]) (c.set (m.length % 64) x)) := by
  obtain ⟨h1, h2⟩ := h
  have hlt : m.length % 64 < 64 := Nat.mod_lt _ (by omega)
  have hs : (c.set (m.length % 64) x).take (m.length % 64 + 1) = m.drop (64 * (m.length / 64)) ++ [x] := by
    rw [← h2, List.take_succ_eq_append_getElem (by simp; omega)]
    simp [List.take_set]
    apply List.set_eq_of_length_le
    simp; omega
  refine ⟨fun hn => ⟨by simp [h1], ?_⟩, fun hn => ?_⟩
  · have e1 : (m ++ [x]).length % 64 = m.length % 64 + 1 := by simp; omega
    have e2 : (m ++ [x]).length / 64 = m.length / 64 := by simp; omega
    rw [e1, e2, hs, List.drop_append_of_le_length (by omega)]
  · have e : c.set (m.length % 64) x = m.drop (64 * (m.length / 64)) ++ [x] := by
      rw [← hs, hn]; exact (List.take_of_length_le (by simp [h1])).symm
    refine ⟨?_, by simp [h1], ?_⟩
    · rw [e, blk, List.drop_append_of_le_length (by omega), List.take_of_length_le]
      simp; omega
    · have e1 : (m ++ [x]).length % 64 = 0 := by simp; omega
      rw [e1, List.take_zero, List.drop_eq_nil_of_le]
      simp; omega
theorem blk_prefix {m M : List UInt8} (h : m <+: M) (k : Nat) (hk : 64 * (k + 1) ≤ m.length) : blk m k = blk M k := by
  obtain ⟨r, rfl⟩ := h
  unfold blk
  rw [List.drop_append_of_le_length (by omega), List.take_append_of_le_length (by simp; omega)]
theorem pad_prefix {m M : List UInt8} (h : m <+: M) : m <+: pad M := h.trans ⟨_, rfl⟩
/-- the last blocks -/
theorem tail_length (n : Nat) : (tail n).length = 9 + (119 - n % 64) % 64 := by simp [tail, be64]; omega
/-- 64 noughts -/
def zb64 : List UInt8 := List.replicate 64 0
theorem zb64_length : zb64.length = 64 := by simp [zb64]
theorem take_flatten_succ (parts : List (List UInt8)) (i : Nat) (h : i < parts.length) : (parts.take (i + 1)).flatten = (parts.take i).flatten ++ parts.getD i [] := by
  rw [List.take_succ_eq_append_getElem h, List.flatten_append]; simp [List.getD_eq_getElem?_getD, List.getElem?_eq_getElem h]
theorem take_prefix (parts : List (List UInt8)) (i j : Nat) (h : i < parts.length) : (parts.take i).flatten ++ (parts.getD i []).take j <+: parts.flatten := by
  have h1 : (parts.take (i + 1)).flatten <+: parts.flatten := ⟨(parts.drop (i + 1)).flatten, by rw [← List.flatten_append, List.take_append_drop]⟩
  rw [take_flatten_succ parts i h] at h1
  exact (List.prefix_append_right_inj _).2 (List.take_prefix _ _) |>.trans h1
/-- what is left of a text, a one behind it, and noughts -/
def endA (m : List UInt8) : List UInt8 := m.drop (64 * (m.length / 64)) ++ 128 :: List.replicate (63 - m.length % 64) 0
theorem endA_length (m : List UInt8) : (endA m).length = 64 := by simp [endA]; omega
theorem pad_drop (m : List UInt8) : (pad m).drop (64 * (m.length / 64)) = m.drop (64 * (m.length / 64)) ++ 128 :: (List.replicate ((119 - m.length % 64) % 64) 0 ++ be64 (8 * m.length)) := by
  unfold pad tail
  rw [List.drop_append_of_le_length (by omega)]; rfl
theorem blk_last_low (m : List UInt8) (h : m.length % 64 < 56) : blk (pad m) (m.length / 64) = (endA m).take 56 ++ be64 (8 * m.length) ∧ (pad m).length / 64 = m.length / 64 + 1 := by
  have hz : (119 - m.length % 64) % 64 = 55 - m.length % 64 := by omega
  refine ⟨?_, by rw [pad_length]; omega⟩
  have e1 : (m.drop (64 * (m.length / 64))).length = m.length % 64 := by simp; omega
  unfold blk
  rw [pad_drop, hz]
  have e2 : endA m = (m.drop (64 * (m.length / 64)) ++ 128 :: List.replicate (55 - m.length % 64) 0) ++ List.replicate 8 0 := by
    unfold endA
    rw [List.append_assoc, List.cons_append, List.replicate_append_replicate, show 55 - m.length % 64 + 8 = 63 - m.length % 64 from by omega]
  obtain ⟨y, hy⟩ : ∃ y, y = m.drop (64 * (m.length / 64)) ++ 128 :: List.replicate (55 - m.length % 64) 0 := ⟨_, rfl⟩
  have hyl : y.length = 56 := by rw [hy]; simp only [List.length_append, List.length_cons, List.length_replicate, e1]; omega
  have e3 : m.drop (64 * (m.length / 64)) ++ 128 :: (List.replicate (55 - m.length % 64) 0 ++ be64 (8 * m.length)) = y ++ be64 (8 * m.length) := by rw [hy]; simp
  have h1 : (y ++ be64 (8 * m.length)).take 64 = y ++ be64 (8 * m.length) := List.take_of_length_le (by simp [hyl, be64])
  have h2 : (y ++ List.replicate 8 0).take 56 = y := by rw [List.take_append_of_le_length (by omega), List.take_of_length_le (by omega)]
  rw [e3, h1, e2, ← hy, h2]
theorem blk_last_high (m : List UInt8) (h : 56 ≤ m.length % 64) : blk (pad m) (m.length / 64) = endA m ∧ blk (pad m) (m.length / 64 + 1) = zb64.take 56 ++ be64 (8 * m.length) ∧ (pad m).length / 64 = m.length / 64 + 2 := by
  have hz : (119 - m.length % 64) % 64 = (63 - m.length % 64) + 56 := by omega
  have e1 : (m.drop (64 * (m.length / 64))).length = m.length % 64 := by simp; omega
  have e2 : (pad m).drop (64 * (m.length / 64)) = endA m ++ (List.replicate 56 0 ++ be64 (8 * m.length)) := by
    rw [pad_drop, hz, endA, ← List.replicate_append_replicate]; simp
  refine ⟨?_, ?_, by rw [pad_length]; omega⟩
  · unfold blk
    rw [e2, List.take_append_of_le_length (by rw [endA_length]; exact Nat.le_refl _), List.take_of_length_le (by rw [endA_length]; exact Nat.le_refl _)]
  · unfold blk
    rw [show 64 * (m.length / 64 + 1) = 64 * (m.length / 64) + 64 from by omega, ← List.drop_drop, e2, List.drop_append_of_le_length (by rw [endA_length]; exact Nat.le_refl _),
      List.drop_eq_nil_of_le (by rw [endA_length]; exact Nat.le_refl _), List.nil_append, List.take_of_length_le (by simp [be64])]
    simp [zb64]
theorem part_end {m c : List UInt8} (h : Part m c) : (c.take (m.length % 64) ++ List.replicate (64 - m.length % 64) 0).set (m.length % 64) 128 = endA m := by
  have hlt : m.length % 64 < 64 := Nat.mod_lt _ (by omega)
  have hl : (c.take (m.length % 64)).length = m.length % 64 := by simp [h.1]; omega
  rw [List.set_append_right _ _ (by omega), hl, Nat.sub_self, show 64 - m.length % 64 = (63 - m.length % 64) + 1 from by omega, List.replicate_succ, List.set_cons_zero, h.2]; rfl
/-- the last eight bytes, from the back -/
def back (x : List UInt8) (n i : Nat) : List UInt8 := x.take (64 - i) ++ (be64 n).drop (8 - i)
theorem back_zero (x : List UInt8) (n : Nat) (h : x.length = 64) : back x n 0 = x := by
  simp [back, be64, ← h]
theorem back_length (x : List UInt8) (n i : Nat) (h : x.length = 64) (hi : i ≤ 8) : (back x n i).length = 64 := by
  simp [back, be64, h]; omega
theorem be64_get (n i : Nat) (h : i < 8) : (be64 n).getD (7 - i) 0 = b8 (n / 256 ^ i) := by
  match i, h with
  | 0, _ => simp [be64]
  | 1, _ => rfl
  | 2, _ => rfl
  | 3, _ => rfl
  | 4, _ => rfl
  | 5, _ => rfl
  | 6, _ => rfl
  | 7, _ => rfl
theorem back_succ (x : List UInt8) (n i : Nat) (h : x.length = 64) (hi : i < 8) : (back x n i).set (63 - i) (b8 (n / 256 ^ i)) = back x n (i + 1) := by
  have e : x.take (64 - i) = x.take (63 - i) ++ [x.getD (63 - i) 0] := by
    rw [show 64 - i = (63 - i) + 1 from by omega, List.take_succ_eq_append_getElem (by omega)]
    simp [List.getD_eq_getElem?_getD, List.getElem?_eq_getElem (show 63 - i < x.length by omega)]
  have hl : (x.take (63 - i)).length = 63 - i := by rw [List.length_take]; omega
  unfold back
  rw [e, List.append_assoc, List.set_append_right _ _ (by omega), hl, Nat.sub_self, List.singleton_append, List.set_cons_zero, show 64 - (i + 1) = 63 - i from by omega]
  refine congrArg _ ?_
  have hb : (be64 n).length = 8 := by simp [be64]
  rw [show 8 - (i + 1) = 7 - i from by omega, ← be64_get n i hi, show 8 - i = (7 - i) + 1 from by omega]
  rw [List.drop_eq_getElem_cons (l := be64 n) (i := 7 - i) (by omega)]
  simp [List.getD_eq_getElem?_getD, List.getElem?_eq_getElem (show 7 - i < (be64 n).length by omega)]
theorem back_eight (x : List UInt8) (n : Nat) : back x n 8 = x.take 56 ++ be64 n := by simp [back]
end Scv
