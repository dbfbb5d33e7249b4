/- The reference's turn of a word; its table. -/
import Derived.Test.YteicjpjniaohhaaSlices
set_option linter.unusedVariables false
set_option linter.unusedSimpArgs false
namespace Scv
open Go
theorem pow_le_of (n : Nat) (h : n ≤ 31) : 2 ^ n ≤ 2147483648 := Nat.le_trans (Nat.pow_le_pow_right (by omega) h) (by decide)
theorem turn_go (n x : Nat) (hx : x < 4294967296) (hn : n ≤ 31) (h1 : 1 ≤ n) :
    (bits .or .u64 ((x : Int) / 2 ^ n) (IntKind.u64.wrap ((x : Int) * 2 ^ (32 - n)))).tmod 4294967296 = (rotr n x : Nat) := by
  have hp := pow_le_of (32 - n) (by omega)
  have hm : x * 2 ^ (32 - n) < 2 ^ 64 := Nat.lt_of_le_of_lt (Nat.mul_le_mul (Nat.le_of_lt hx) hp) (by decide)
  have hd : x / 2 ^ n < 2 ^ 64 := Nat.lt_of_le_of_lt (Nat.div_le_self _ _) (Nat.lt_trans hx (by decide))
  have e1 : (x : Int) / 2 ^ n = ((x / 2 ^ n : Nat) : Int) := by norm_cast
  have e2 : IntKind.u64.wrap ((x : Int) * 2 ^ (32 - n)) = ((x * 2 ^ (32 - n) : Nat) : Int) := by
    have : (x : Int) * 2 ^ (32 - n) = ((x * 2 ^ (32 - n) : Nat) : Int) := by rw [Int.natCast_mul, Int.natCast_pow]; rfl
    rw [this, u_wrap .u64 rfl]
    exact congrArg Int.ofNat (Nat.mod_eq_of_lt hm)
  rw [e1, e2, bits_or .u64 rfl _ _ hd hm, Int.tmod_eq_emod_of_nonneg (by omega), mod_nat]
  congr 1
  unfold rotr
  rw [Nat.shiftLeft_eq, Nat.shiftRight_eq_div_pow]
end Scv
namespace Go.Proofs.Yteicjpjniaohhaa
open Go.RowKit Scv
theorem turn_calls (n : Nat) (x : Nat) (hx : x < 4294967296) (hn : n ≤ 31) (h1 : 1 ≤ n) (w : World) :
    Calls Try.prog 62 #[.int .u64 x, .int .i64 (n : Int)] w fun e w' => e = .returned (.int .u64 (rotr n x)) ∧ ∃ m, w' = w.drewN m := by
  have e1 : IntKind.i64.wrap (32 - (n : Int)) = 32 - n := IntWalk.i64_in _ (by omega)
  have t1 : (32 - (n : Int)).toNat = 32 - n := by omega
  have p1 : (0 : Int) ≤ 32 - n := by omega
  have p2 : (0 : Int) ≤ n := by omega
  have p3 : (32 : Int) - n < 64 := by omega
  have p4 : (n : Int) < 64 := by omega
  go_enter Try.func62, Try.ntmps62
  go_wp2_with fail
  go_quiet (fail)
  go_wp2_with fail
  refine bodyPost_ret (results_tmp rfl _ _ _) rfl ?_
  exact ⟨congrArg Ending.returned (congrArg (Value.int .u64) (turn_go n x hx hn h1)), _, rfl⟩
theorem quiet_drew {P : Program} {f : FuncId} {args : Array Value} {w : World} {n : Nat} {v : Value}
    (h : Calls P f args (w.drewN n) fun e w' => e = .returned v ∧ ∃ m, w' = (w.drewN n).drewN m) : Calls P f args (w.drewN n) fun e w'' => e = .returned v ∧ ∃ m, w'' = w.drewN m :=
  h.mono fun _ _ ⟨he, m, hm⟩ => ⟨he, n + m, by rw [hm]; simp [World.drewN, Nat.add_assoc]⟩
/-- the words of the table -/
theorem Try.ku64 : (Try.prog.info? 128).map (fun i => (i.size, i.zero.isSome)) = some (1, true) := by kernel_rfl
theorem Try.uu64s : Try.prog.underlying 126 = some (.slice 128) := by kernel_rfl
def vq (n : Nat) : Value := .int .u64 (n : Int)
theorem parts_calls (w : World) :
    Calls Try.prog 61 #[] w fun e w' => ∃ g, e = .returned (.slice (some ⟨g, 0, none⟩) 64 64) ∧ g = w.heap.size ∧ Blk w' g (KK.map vq).toArray 128 ∧ w.grownBy w' none := by
  go_enter Try.func61, Try.ntmps61
  go_wp2_with fail
  refine bodyPost_ret (results_tmp rfl _ _ _) rfl ?_
  exact ⟨w.heap.size, rfl, rfl, Blk.new w _ _, World.grownBy_alloc w _ none⟩
end Go.Proofs.Yteicjpjniaohhaa
