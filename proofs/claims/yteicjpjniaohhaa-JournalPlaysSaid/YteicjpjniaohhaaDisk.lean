/- A disk, plain: what the slab and its document's answer do. -/
import Derived.Test.YteicjpjniaohhaaShaEv
set_option linter.unusedVariables false
set_option linter.unusedSimpArgs false
namespace Scv
structure Disk where
  room : Nat
  bytes : List UInt8
  sure : Nat
  steps : Int
structure Disk.ok (d : Disk) : Prop where
  room : d.room ≤ 4194304
  fits : d.bytes.length ≤ d.room
  sure : d.sure ≤ d.bytes.length
  low : -1 ≤ d.steps
  high : d.steps ≤ 9223372036854775807
def Disk.new (room : Nat) : Disk := ⟨room, [], 0, -1⟩
theorem Disk.new_ok {room : Nat} (h : room ≤ 4194304) : (Disk.new room).ok := ⟨h, Nat.zero_le _, Nat.le_refl _, by simp [Disk.new], by simp [Disk.new]⟩
/-- the disk behind a step, if there is power for it -/
def Disk.step (d : Disk) : Disk := { d with steps := max (d.steps - 1) (-1) }
theorem Disk.step_ok {d : Disk} (h : d.ok) : d.step.ok := ⟨h.room, h.fits, h.sure, by simp [Disk.step]; omega, by have := h.high; simp [Disk.step]; omega⟩
/-- bytes more -/
def Disk.append (d : Disk) (b : List UInt8) : Disk × Int :=
  if d.room < d.bytes.length + b.length then (d, 3) else if d.steps = 0 then (d, 90) else ({ d.step with bytes := d.bytes ++ b }, 0)
theorem Disk.append_ok {d : Disk} (h : d.ok) (b : List UInt8) : (d.append b).1.ok := by
  unfold Disk.append
  have hs := Disk.step_ok h
  split
  · exact h
  · split
    · exact h
    · exact ⟨hs.room, by simp [Disk.step]; omega, by have := h.sure; simp [Disk.step]; omega, hs.low, hs.high⟩
def Disk.sync (d : Disk) : Disk × Int := if d.steps = 0 then (d, 90) else ({ d.step with sure := d.bytes.length }, 0)
theorem Disk.sync_ok {d : Disk} (h : d.ok) : (d.sync).1.ok := by
  unfold Disk.sync
  have hs := Disk.step_ok h
  split
  · exact h
  · exact ⟨hs.room, hs.fits, Nat.le_refl _, hs.low, hs.high⟩
/-- cut at a place that is there -/
def Disk.cut (d : Disk) (at' : Nat) : Disk × Int :=
  if d.steps = 0 then (d, 90) else ({ d.step with bytes := d.bytes.take at', sure := min d.sure at' }, 0)
theorem Disk.cut_ok {d : Disk} (h : d.ok) (n : Nat) : (d.cut n).1.ok := by
  unfold Disk.cut
  have hs := Disk.step_ok h
  have h1 := h.fits
  have h2 := h.sure
  split
  · exact h
  · exact ⟨hs.room, by simp [Disk.step]; omega, by simp [Disk.step]; omega, hs.low, hs.high⟩
def Disk.brk (d : Disk) (steps : Int) : Disk := { d with steps := max steps (-1) }
theorem Disk.brk_ok {d : Disk} (h : d.ok) (n : Int) (hn : n ≤ 9223372036854775807) : (d.brk n).ok := ⟨h.room, h.fits, h.sure, by simp [Disk.brk]; omega, by simp [Disk.brk]; omega⟩
/-- how much is left behind a crash -/
def Disk.left (d : Disk) (keep : Int) : Nat := d.sure + (max 0 (min keep (d.bytes.length - d.sure : Nat))).toNat
def Disk.crash (d : Disk) (keep : Int) : Disk := ⟨d.room, d.bytes.take (d.left keep), d.left keep, -1⟩
theorem Disk.left_le {d : Disk} (h : d.ok) (keep : Int) : d.left keep ≤ d.bytes.length := by have := h.sure; unfold Disk.left; omega
theorem Disk.crash_ok {d : Disk} (h : d.ok) (keep : Int) : (d.crash keep).ok := by
  have := Disk.left_le h keep
  have := h.fits
  exact ⟨h.room, by simp [Disk.crash]; omega, by simp [Disk.crash]; omega, by simp [Disk.crash], by simp [Disk.crash]⟩
/-- another byte at a place -/
def Disk.spoil (d : Disk) (at' : Nat) (x : UInt8) : Disk := { d with bytes := d.bytes.set at' x }
theorem Disk.spoil_ok {d : Disk} (h : d.ok) (n : Nat) (x : UInt8) : (d.spoil n x).ok := ⟨h.room, by simpa [Disk.spoil] using h.fits, by simpa [Disk.spoil] using h.sure, h.low, h.high⟩
end Scv
