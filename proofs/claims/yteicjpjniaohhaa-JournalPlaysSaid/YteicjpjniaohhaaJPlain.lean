/- The journal, plain: what it reads and writes, upon a plain disk. -/
import Derived.Test.YteicjpjniaohhaaLink
namespace Scv
structure Jour where
  records : List (List UInt8)
  last : List UInt8
  down : Bool
def zero32 : List UInt8 := List.replicate 32 0
/-- a record as it lies there -/
def recB (last data : List UInt8) : List UInt8 := frontS last data ++ data
theorem recB_length (last data : List UInt8) : (recB last data).length = 35 + data.length := by simp [recB, frontS_length]
def Jour.more (s : Jour) (data : List UInt8) : Jour := ⟨s.records ++ [data], lnk s.last data, false⟩
/-- a record is written -/
def Jour.write (s : Jour) (d : Disk) (data : List UInt8) : Jour × Disk × Int :=
  if s.down = true then (s, d, 90)
  else if 262144 < data.length then (s, d, 2)
  else if (d.append (recB s.last data)).2 ≠ 0 then ({ s with down := decide ((d.append (recB s.last data)).2 = 90) }, (d.append (recB s.last data)).1, (d.append (recB s.last data)).2)
  else if (d.append (recB s.last data)).1.sync.2 ≠ 0 then ({ s with down := decide ((d.append (recB s.last data)).1.sync.2 = 90) }, (d.append (recB s.last data)).1.sync.1, (d.append (recB s.last data)).1.sync.2)
  else (s.more data, (d.append (recB s.last data)).1.sync.1, 0)
/-- the number in three bytes -/
def n24 (b : List UInt8) : Nat := (byt b 0 * 256 + byt b 1) * 256 + byt b 2
theorem n24_lt (b : List UInt8) : n24 b < 16777216 := by
  have h : ∀ i, byt b i < 256 := fun i => (b.getD i 0).toNat_lt
  have h0 := h 0; have h1 := h 1; have h2 := h 2
  unfold n24; omega
inductive Rd where
  | stop
  | torn
  | next (data : List UInt8)
/-- what comes next in some bytes -/
def rd1 (last b : List UInt8) : Rd :=
  if b.length < 35 then .stop
  else if ownS last (b.take 3) ≠ (b.drop 3).take 16 then .torn
  else if b.length - 35 < n24 b then .stop
  else if (lnk last ((b.drop 35).take (n24 b))).take 16 ≠ (b.drop 19).take 16 then .torn
  else .next ((b.drop 35).take (n24 b))
theorem rd1_next {last b data : List UInt8} (h : rd1 last b = .next data) : 35 ≤ b.length ∧ data.length + 35 ≤ b.length ∧ data = (b.drop 35).take (n24 b) ∧ data.length = n24 b := by
  unfold rd1 at h
  split at h
  · cases h
  · split at h
    · cases h
    · split at h
      · cases h
      · split at h
        · cases h
        · cases h
          simp only [List.length_take, List.length_drop]
          exact ⟨by omega, by omega, trivial, by omega⟩
/-- all records in some bytes: the records, the sum of all, how many bytes; none, if one was spoilt -/
def scan : Nat → List UInt8 → List UInt8 → Option (List (List UInt8) × List UInt8 × Nat)
  | 0, _, last => some ([], last, 0)
  | f + 1, b, last => match rd1 last b with
    | .stop => some ([], last, 0)
    | .torn => none
    | .next data => match scan f (b.drop (35 + data.length)) (lnk last data) with
      | none => none
      | some (rs, l, n) => some (data :: rs, l, 35 + data.length + n)
theorem scan_fuel : ∀ (f f' : Nat) (b last : List UInt8), b.length ≤ f → b.length ≤ f' → scan f b last = scan f' b last
  | 0, 0, _, _, _, _ => rfl
  | 0, f' + 1, b, last, h, _ => by
    have : rd1 last b = .stop := by unfold rd1; rw [if_pos (by omega)]
    simp [scan, this]
  | f + 1, 0, b, last, _, h => by
    have : rd1 last b = .stop := by unfold rd1; rw [if_pos (by omega)]
    simp [scan, this]
  | f + 1, f' + 1, b, last, h, h' => by
    cases hr : rd1 last b with
    | stop => simp [scan, hr]
    | torn => simp [scan, hr]
    | next data =>
      obtain ⟨_, hl, _⟩ := rd1_next hr
      have := scan_fuel f f' (b.drop (35 + data.length)) (lnk last data) (by simp; omega) (by simp; omega)
      simp only [scan, hr, this]
/-- all records of some bytes behind a sum -/
def scanA (b last : List UInt8) : Option (List (List UInt8) × List UInt8 × Nat) := scan b.length b last
/-- some records lie ahead -/
def ahead (rs : List (List UInt8)) (n : Nat) : Option (List (List UInt8) × List UInt8 × Nat) → Option (List (List UInt8) × List UInt8 × Nat)
  | none => none
  | some (r, l, m) => some (rs ++ r, l, n + m)
theorem scanA_stop {b last : List UInt8} (h : rd1 last b = .stop) : scanA b last = some ([], last, 0) := by
  unfold scanA; cases hb : b.length with
  | zero => rfl
  | succ n => simp [scan, h]
theorem scanA_torn {b last : List UInt8} (h : rd1 last b = .torn) : scanA b last = none := by
  unfold scanA; cases hb : b.length with
  | zero => unfold rd1 at h; rw [if_pos (by omega)] at h; cases h
  | succ n => simp [scan, h]
theorem scanA_next {b last data : List UInt8} (h : rd1 last b = .next data) : scanA b last = ahead [data] (35 + data.length) (scanA (b.drop (35 + data.length)) (lnk last data)) := by
  obtain ⟨h1, h2, _⟩ := rd1_next h
  unfold scanA
  obtain ⟨n, hn⟩ : ∃ n, b.length = n + 1 := ⟨b.length - 1, by omega⟩
  rw [hn, scan, h]
  simp only []
  rw [scan_fuel n (b.drop (35 + data.length)).length _ _ (by simp; omega) (Nat.le_refl _)]
  cases scan (b.drop (35 + data.length)).length (b.drop (35 + data.length)) (lnk last data) with
  | none => rfl
  | some x => obtain ⟨r, l, m⟩ := x; rfl
theorem ahead_ahead (r1 r2 : List (List UInt8)) (n1 n2 : Nat) (x : Option (List (List UInt8) × List UInt8 × Nat)) : ahead r1 n1 (ahead r2 n2 x) = ahead (r1 ++ r2) (n1 + n2) x := by
  cases x with
  | none => rfl
  | some x => obtain ⟨r, l, m⟩ := x; simp [ahead, Nat.add_assoc]
/-- a journal is opened -/
def opened (d : Disk) : Option Jour × Disk × Int :=
  match scanA d.bytes zero32 with
  | none => (none, d, 100)
  | some (rs, l, n) =>
    if n < d.bytes.length then
      if (d.cut n).2 ≠ 0 then (none, (d.cut n).1, (d.cut n).2) else (some ⟨rs, l, false⟩, (d.cut n).1, 0)
    else (some ⟨rs, l, false⟩, d, 0)
theorem scanA_length : ∀ (k : Nat) (b last : List UInt8) (rs : List (List UInt8)) (l : List UInt8) (n : Nat), b.length ≤ k → last.length = 32 → scanA b last = some (rs, l, n) → n ≤ b.length ∧ l.length = 32 ∧ 35 * rs.length ≤ n ∧ ∀ r ∈ rs, r.length < 16777216
  | k, b, last, rs, l, n, hk, hl, h => by
    cases hr : rd1 last b with
    | stop => rw [scanA_stop hr] at h; cases h; exact ⟨Nat.zero_le _, hl, Nat.le_refl _, by simp⟩
    | torn => rw [scanA_torn hr] at h; cases h
    | next data =>
      obtain ⟨h1, h2, _, h4⟩ := rd1_next hr
      rw [scanA_next hr] at h
      cases hs : scanA (b.drop (35 + data.length)) (lnk last data) with
      | none => rw [hs] at h; cases h
      | some x =>
        obtain ⟨r, l', m⟩ := x
        rw [hs] at h
        cases h
        cases k with
        | zero => omega
        | succ k =>
          obtain ⟨q1, q2, q3, q4⟩ := scanA_length k _ _ _ _ _ (by simp; omega) (lnk_length _ _) hs
          simp only [List.length_drop] at q1
          refine ⟨by omega, q2, by simp; omega, fun r hr => ?_⟩
          rcases List.mem_cons.1 hr with rfl | hr
          · rw [h4]; exact n24_lt b
          · exact q4 r hr
end Scv
