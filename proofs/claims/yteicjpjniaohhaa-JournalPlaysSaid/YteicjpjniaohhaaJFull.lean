/- The journal, plain: slabs that hold whole records. -/
import Derived.Test.YteicjpjniaohhaaJPlain
set_option linter.unusedVariables false
set_option linter.unusedSimpArgs false
namespace Scv
theorem b8_toNat (n : Nat) : (b8 n).toNat = n % 256 := by unfold b8; rw [UInt8.toNat_ofNat']
theorem n24_be24 (n : Nat) (h : n < 16777216) (t : List UInt8) : n24 (be24 n ++ t) = n := by
  have e0 : byt (be24 n ++ t) 0 = n / 65536 % 256 := b8_toNat _
  have e1 : byt (be24 n ++ t) 1 = n / 256 % 256 := b8_toNat _
  have e2 : byt (be24 n ++ t) 2 = n % 256 := b8_toNat _
  unfold n24; rw [e0, e1, e2]; omega
theorem be24_length (n : Nat) : (be24 n).length = 3 := rfl
/-- the parts of a record's front -/
theorem recB_parts (last data tail : List UInt8) : (recB last data ++ tail).take 3 = be24 data.length ∧ ((recB last data ++ tail).drop 3).take 16 = ownS last (be24 data.length) ∧ ((recB last data ++ tail).drop 19).take 16 = (lnk last data).take 16 ∧
    (recB last data ++ tail).drop 35 = data ++ tail := by
  have h1 := ownS_length last (be24 data.length)
  have h2 : ((lnk last data).take 16).length = 16 := by rw [List.length_take, lnk_length]; rfl
  have e : recB last data ++ tail = be24 data.length ++ (ownS last (be24 data.length) ++ ((lnk last data).take 16 ++ (data ++ tail))) := by
    simp [recB, frontS]
  rw [e]
  have d3 : (be24 data.length ++ (ownS last (be24 data.length) ++ ((lnk last data).take 16 ++ (data ++ tail)))).drop 3 = ownS last (be24 data.length) ++ ((lnk last data).take 16 ++ (data ++ tail)) := List.drop_left' (be24_length _)
  have d19 : (be24 data.length ++ (ownS last (be24 data.length) ++ ((lnk last data).take 16 ++ (data ++ tail)))).drop 19 = (lnk last data).take 16 ++ (data ++ tail) := by
    rw [show (19 : Nat) = 3 + 16 from rfl, ← List.drop_drop, d3]; exact List.drop_left' h1
  refine ⟨List.take_left' (be24_length _), ?_, ?_, ?_⟩
  · rw [d3]; exact List.take_left' h1
  · rw [d19]; exact List.take_left' h2
  · rw [show (35 : Nat) = 19 + 16 from rfl, ← List.drop_drop, d19]; exact List.drop_left' h2
theorem rd1_rec (last data tail : List UInt8) (h : data.length < 16777216) : rd1 last (recB last data ++ tail) = .next data := by
  obtain ⟨p1, p2, p3, p4⟩ := recB_parts last data tail
  have hl : (recB last data ++ tail).length = 35 + data.length + tail.length := by rw [List.length_append, recB_length]
  have hn : n24 (recB last data ++ tail) = data.length := by
    have : recB last data ++ tail = be24 data.length ++ (recB last data ++ tail).drop 3 := by rw [← p1, List.take_append_drop]
    rw [this]; exact n24_be24 _ h _
  unfold rd1
  rw [hl, hn, p1, p2, p3, p4, if_neg (by omega), if_neg (by simp), if_neg (by omega), List.take_left, if_neg (by simp)]
/-- some records behind each other -/
def recsB : List UInt8 → List (List UInt8) → List UInt8
  | _, [] => []
  | last, d :: ds => recB last d ++ recsB (lnk last d) ds
def lastOf : List UInt8 → List (List UInt8) → List UInt8
  | last, [] => last
  | last, d :: ds => lastOf (lnk last d) ds
theorem recsB_snoc : ∀ (ds : List (List UInt8)) (last d : List UInt8), recsB last (ds ++ [d]) = recsB last ds ++ recB (lastOf last ds) d
  | [], last, d => by simp [recsB, lastOf]
  | x :: ds, last, d => by simp [recsB, lastOf, recsB_snoc ds]
theorem lastOf_snoc : ∀ (ds : List (List UInt8)) (last d : List UInt8), lastOf last (ds ++ [d]) = lnk (lastOf last ds) d
  | [], last, d => rfl
  | x :: ds, last, d => by simp [lastOf, lastOf_snoc ds]
theorem lastOf_length : ∀ (ds : List (List UInt8)) (last : List UInt8), last.length = 32 → (lastOf last ds).length = 32
  | [], _, h => h
  | x :: ds, last, _ => lastOf_length ds _ (lnk_length _ _)
def total (ds : List (List UInt8)) : Nat := (ds.map fun d => 35 + d.length).sum
theorem recsB_length : ∀ (ds : List (List UInt8)) (last : List UInt8), (recsB last ds).length = total ds
  | [], _ => rfl
  | x :: ds, last => by simp [recsB, recsB_length ds, total, recB_length]
theorem total_snoc (ds : List (List UInt8)) (d : List UInt8) : total (ds ++ [d]) = total ds + (35 + d.length) := by simp [total]
theorem total_le (ds : List (List UInt8)) (m : Nat) (h : ∀ d ∈ ds, d.length ≤ m) : total ds ≤ ds.length * (35 + m) := by
  induction ds with
  | nil => simp [total]
  | cons x ds ih =>
    have := ih (fun d hd => h d (List.mem_cons_of_mem _ hd))
    have hx := h x (by simp)
    simp only [total, List.map_cons, List.sum_cons, List.length_cons] at this ⊢
    rw [Nat.succ_mul]; omega
theorem scanA_recs : ∀ (ds : List (List UInt8)) (last tail : List UInt8), (∀ d ∈ ds, d.length < 16777216) → scanA (recsB last ds ++ tail) last = ahead ds (total ds) (scanA tail (lastOf last ds))
  | [], last, tail, _ => by
    simp only [recsB, lastOf, List.nil_append, total]
    cases scanA tail last with
    | none => rfl
    | some x => obtain ⟨r, l, m⟩ := x; simp [ahead]
  | d :: ds, last, tail, h => by
    have hr := rd1_rec last d (recsB (lnk last d) ds ++ tail) (h d (by simp))
    have hd : (recB last d ++ (recsB (lnk last d) ds ++ tail)).drop (35 + d.length) = recsB (lnk last d) ds ++ tail := List.drop_left' (recB_length _ _)
    rw [recsB, List.append_assoc, scanA_next hr, hd, scanA_recs ds _ tail (fun x hx => h x (List.mem_cons_of_mem _ hx)), ahead_ahead]
    rfl
theorem scanA_nil (last : List UInt8) : scanA [] last = some ([], last, 0) := rfl
/-- a slab with whole records, all sure -/
def full (room : Nat) (ds : List (List UInt8)) : Disk := ⟨room, recsB zero32 ds, total ds, -1⟩
def jfull (ds : List (List UInt8)) : Jour := ⟨ds, lastOf zero32 ds, false⟩
theorem full_nil (room : Nat) : full room [] = Disk.new room := rfl
theorem opened_full (room : Nat) (ds : List (List UInt8)) (h : ∀ d ∈ ds, d.length < 16777216) : opened (full room ds) = (some (jfull ds), full room ds, 0) := by
  have hs : scanA (full room ds).bytes zero32 = some (ds, lastOf zero32 ds, total ds) := by
    have := scanA_recs ds zero32 [] h
    rw [List.append_nil, scanA_nil] at this
    simpa [ahead, full] using this
  unfold opened
  rw [hs]
  simp only []
  rw [if_neg (by simp [full, recsB_length])]
  rfl
theorem write_full (room : Nat) (ds : List (List UInt8)) (d : List UInt8) (hd : d.length ≤ 262144) (hr : total ds + (35 + d.length) ≤ room) : (jfull ds).write (full room ds) d = (jfull (ds ++ [d]), full room (ds ++ [d]), 0) := by
  have h1 : (full room ds).append (recB (jfull ds).last d) = (⟨room, recsB zero32 (ds ++ [d]), total ds, -1⟩, 0) := by
    unfold Disk.append
    rw [if_neg (by simp [full, recsB_length, recB_length]; omega), if_neg (by simp [full])]
    simp [full, jfull, Disk.step, recsB_snoc]
    try decide
  unfold Jour.write
  rw [if_neg (by simp [jfull]), if_neg (by omega), h1, if_neg (by simp)]
  simp [Disk.sync, Disk.step, full, jfull, Jour.more, recsB_length, lastOf_snoc]
  try decide
theorem write_over (room : Nat) (ds : List (List UInt8)) (d : List UInt8) (hd : d.length ≤ 262144) (hr : room < total ds + (35 + d.length)) : (jfull ds).write (full room ds) d = (jfull ds, full room ds, 3) := by
  have h1 : (full room ds).append (recB (jfull ds).last d) = (full room ds, 3) := by
    unfold Disk.append
    rw [if_pos (by simp [full, recsB_length, recB_length]; omega)]
  unfold Jour.write
  rw [if_neg (by simp [jfull]), if_neg (by omega), h1, if_pos (by simp)]
  simp [jfull]
theorem write_long (room : Nat) (ds : List (List UInt8)) (d : List UInt8) (hd : 262144 < d.length) : (jfull ds).write (full room ds) d = (jfull ds, full room ds, 2) := by
  unfold Jour.write
  rw [if_neg (by simp [jfull]), if_pos hd]
end Scv
