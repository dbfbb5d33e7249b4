/- The journal, plain: a record that was cut off; a write with the power gone at a step. -/
import Derived.Test.YteicjpjniaohhaaJFull
namespace Scv
/-- a beginning of a record is no record -/
theorem rd1_cut (last b : List UInt8) (r : Nat) (hb : b.length < 16777216) (hr : r < 35 + b.length) : rd1 last ((recB last b).take r) = .stop := by
  have hl : ((recB last b).take r).length = r := by rw [List.length_take, recB_length]; omega
  by_cases h35 : r < 35
  · unfold rd1; rw [if_pos (by omega)]
  · obtain ⟨p1, p2, p3, p4⟩ := recB_parts last b []
    rw [List.append_nil] at p1 p2
    have q1 : ((recB last b).take r).take 3 = be24 b.length := by rw [List.take_take, Nat.min_eq_left (by omega), p1]
    have q2 : (((recB last b).take r).drop 3).take 16 = ownS last (be24 b.length) := by
      rw [List.drop_take, List.take_take, Nat.min_eq_left (by omega), p2]
    have hn : n24 ((recB last b).take r) = b.length := by
      have : (recB last b).take r = be24 b.length ++ ((recB last b).take r).drop 3 := by rw [← q1, List.take_append_drop]
      rw [this]; exact n24_be24 _ hb _
    unfold rd1
    rw [hl, hn, q1, q2, if_neg (by omega), if_neg (by simp), if_pos (by omega)]
/-- a slab with whole records, and a beginning of one more -/
def torn (room : Nat) (ds : List (List UInt8)) (b : List UInt8) (r : Nat) : Disk := ⟨room, recsB zero32 ds ++ (recB (lastOf zero32 ds) b).take r, total ds + r, -1⟩
/-- what is there of it when it is opened -/
def left (ds : List (List UInt8)) (b : List UInt8) (r : Nat) : List (List UInt8) := if r = 35 + b.length then ds ++ [b] else ds
theorem opened_torn (room : Nat) (ds : List (List UInt8)) (b : List UInt8) (r : Nat) (h : ∀ d ∈ ds, d.length < 16777216) (hb : b.length < 16777216) (hr : r ≤ 35 + b.length) :
    opened (torn room ds b r) = (some (jfull (left ds b r)), full room (left ds b r), 0) := by
  unfold left
  by_cases hf : r = 35 + b.length
  · rw [if_pos hf]
    have he : torn room ds b r = full room (ds ++ [b]) := by
      unfold torn full
      rw [List.take_of_length_le (by rw [recB_length]; omega), recsB_snoc, total_snoc, hf]
    rw [he]
    exact opened_full room (ds ++ [b]) (by
      intro d hd
      rcases List.mem_append.1 hd with hd | hd
      · exact h d hd
      · rw [List.mem_singleton.1 hd]; exact hb)
  · rw [if_neg hf]
    have hs : scanA (torn room ds b r).bytes zero32 = some (ds, lastOf zero32 ds, total ds) := by
      have h1 := scanA_recs ds zero32 ((recB (lastOf zero32 ds) b).take r) h
      rw [scanA_stop (rd1_cut (lastOf zero32 ds) b r hb (by omega))] at h1
      simpa [ahead, torn] using h1
    have hlen : (torn room ds b r).bytes.length = total ds + r := by
      simp only [torn, List.length_append, recsB_length, List.length_take, recB_length]; omega
    unfold opened
    rw [hs]
    simp only []
    by_cases h0 : r = 0
    · rw [if_neg (by rw [hlen]; omega)]
      simp [torn, full, h0, jfull]
    · have hc : (torn room ds b r).cut (total ds) = (full room ds, 0) := by
        unfold Disk.cut
        rw [if_neg (by simp [torn])]
        have ht : (recsB zero32 ds ++ (recB (lastOf zero32 ds) b).take r).take (total ds) = recsB zero32 ds := List.take_left' (recsB_length ds zero32)
        have hm : min (total ds + r) (total ds) = total ds := by omega
        simp only [torn, Disk.step, full, ht, hm]
        rfl
      rw [if_pos (by rw [hlen]; omega), hc, if_neg (by simp)]
      rfl
/-- a record is written with power for some steps, and then the power goes: a beginning of it is there -/
theorem broken_write (room : Nat) (ds : List (List UInt8)) (b : List UInt8) (steps keep : Int) (hd : b.length ≤ 262144) (hr : total ds + (35 + b.length) ≤ room) :
    ∃ r, r ≤ 35 + b.length ∧ ((jfull ds).write ((full room ds).brk steps) b).2.1.crash keep = torn room ds b r ∧ (steps < 0 ∨ 1 < steps → r = 35 + b.length) ∧
      ((((jfull ds).write ((full room ds).brk steps) b).2.2 = 0 ∧ r = 35 + b.length) ∨ ((jfull ds).write ((full room ds).brk steps) b).2.2 = 90) := by
  have hbl : (recB (lastOf zero32 ds) b).length = 35 + b.length := recB_length _ _
  have hrl : (recsB zero32 ds).length = total ds := recsB_length _ _
  by_cases h0 : max steps (-1) = 0
  · have ha : ((full room ds).brk steps).append (recB (jfull ds).last b) = ((full room ds).brk steps, 90) := by
      unfold Disk.append
      rw [if_neg (by simp [full, Disk.brk, hrl, recB_length]; omega), if_pos (by simpa [Disk.brk] using h0)]
    have hw : (jfull ds).write ((full room ds).brk steps) b = ({ jfull ds with down := decide ((90 : Int) = 90) }, (full room ds).brk steps, 90) := by
      unfold Jour.write
      rw [if_neg (by simp [jfull]), if_neg (by omega), ha, if_pos (by simp)]
    refine ⟨0, by omega, ?_, fun h => by omega, .inr (by rw [hw])⟩
    rw [hw]
    have hl : ((full room ds).brk steps).left keep = total ds := by simp [Disk.left, Disk.brk, full, hrl]; omega
    simp only [Disk.crash, hl, torn]
    simp [Disk.brk, full, ← hrl]
  · have ha : ((full room ds).brk steps).append (recB (jfull ds).last b) = (⟨room, recsB zero32 ds ++ recB (lastOf zero32 ds) b, total ds, max (max steps (-1) - 1) (-1)⟩, 0) := by
      unfold Disk.append
      rw [if_neg (by simp [full, Disk.brk, hrl, recB_length]; omega), if_neg (by simpa [Disk.brk] using h0)]
      rfl
    by_cases h1 : max (max steps (-1) - 1) (-1) = 0
    · have hs : (⟨room, recsB zero32 ds ++ recB (lastOf zero32 ds) b, total ds, max (max steps (-1) - 1) (-1)⟩ : Disk).sync = (⟨room, recsB zero32 ds ++ recB (lastOf zero32 ds) b, total ds, max (max steps (-1) - 1) (-1)⟩, 90) := by
        unfold Disk.sync; rw [if_pos h1]
      have hw : (jfull ds).write ((full room ds).brk steps) b = ({ jfull ds with down := decide ((90 : Int) = 90) }, ⟨room, recsB zero32 ds ++ recB (lastOf zero32 ds) b, total ds, max (max steps (-1) - 1) (-1)⟩, 90) := by
        unfold Jour.write
        rw [if_neg (by simp [jfull]), if_neg (by omega), ha, if_neg (by simp)]
        simp only []
        rw [hs, if_pos (by simp)]
        rfl
      obtain ⟨r, hrr⟩ : ∃ r, r = (max 0 (min keep ((35 + b.length : Nat) : Int))).toNat := ⟨_, rfl⟩
      refine ⟨r, by omega, ?_, fun h => by omega, .inr (by rw [hw])⟩
      rw [hw]
      have hl : (⟨room, recsB zero32 ds ++ recB (lastOf zero32 ds) b, total ds, max (max steps (-1) - 1) (-1)⟩ : Disk).left keep = total ds + r := by
        simp only [Disk.left, List.length_append, hrl, hbl]
        rw [hrr]
        congr 2
        omega
      simp only [Disk.crash, hl, torn]
      congr 1
      rw [← hrl, List.take_append, List.take_of_length_le (by omega)]
      congr 2
      omega
    · have hs : (⟨room, recsB zero32 ds ++ recB (lastOf zero32 ds) b, total ds, max (max steps (-1) - 1) (-1)⟩ : Disk).sync = (⟨room, recsB zero32 ds ++ recB (lastOf zero32 ds) b, total ds + (35 + b.length), max (max (max steps (-1) - 1) (-1) - 1) (-1)⟩, 0) := by
        unfold Disk.sync; rw [if_neg h1]
        simp [Disk.step, hrl, hbl]
      have hw : (jfull ds).write ((full room ds).brk steps) b = ((jfull ds).more b, ⟨room, recsB zero32 ds ++ recB (lastOf zero32 ds) b, total ds + (35 + b.length), max (max (max steps (-1) - 1) (-1) - 1) (-1)⟩, 0) := by
        unfold Jour.write
        rw [if_neg (by simp [jfull]), if_neg (by omega), ha, if_neg (by simp)]
        simp only []
        rw [hs, if_neg (by simp)]
      refine ⟨35 + b.length, by omega, ?_, fun _ => rfl, .inl ⟨by rw [hw], rfl⟩⟩
      rw [hw]
      have hl : (⟨room, recsB zero32 ds ++ recB (lastOf zero32 ds) b, total ds + (35 + b.length), max (max (max steps (-1) - 1) (-1) - 1) (-1)⟩ : Disk).left keep = total ds + (35 + b.length) := by
        simp only [Disk.left, List.length_append, hrl, hbl]; omega
      simp only [Disk.crash, hl, torn]
      congr 1
      rw [List.take_of_length_le (by simp [hrl, hbl]), List.take_of_length_le (by rw [hbl]; omega)]
end Scv
