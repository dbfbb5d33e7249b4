/- bits.RotateLeft32 by a count below 0 turns a word to the right. -/
import Derived.WalkKit
import Derived.WalkSpells
import Derived.WalkLawsBesides
import Derived.Lib.Hide
import Derived.Test.YteicjpjniaohhaaNums
import Derived.Test.YteicjpjniaohhaaProg
namespace Go.Proofs.Yteicjpjniaohhaa
open Go.RowKit
theorem ret_int {k : IntKind} {a b : Int} (h : a = b) : Ending.returned (.int k a) = .returned (.int k b) := by rw [h]
theorem rot_calls (n : Nat) (k : Int) (c : Int) (hk : bits .and .u64 (IntKind.u64.wrap k) 31 = c) (h0 : 0 ≤ c) (h1 : c ≤ 31) (hc : c = 32 - (n : Int)) (hn : n ≤ 31) (x : Nat) (hx : x < 4294967296) (w : World) :
    Calls Try.prog 64 #[.int .u32 x, .int .i64 k] w fun e w' => e = .returned (.int .u32 (Scv.rotr n x)) ∧ w = w' := by
  have hx' : (x : Int) < 4294967296 := by omega
  have hfin := Scv.rot_go n x hx
  have hc1 : c.toNat = 32 - n := by omega
  have hc2 : (32 - c).toNat = n := by omega
  have h32 : c ≤ 32 := by omega
  have H1 := Lib.hid hc1
  have H2 := Lib.hid hc2
  have H := Lib.hid hfin
  clear hfin hc1 hc2 hc hx
  go_enter Try.func64, Try.ntmps64
  go_wp2
  go_ret
  refine ⟨?_, rfl⟩
  refine ret_int ?_
  rw [H1.out, H2.out]
  exact H.out
theorem rot7 (x : Nat) (hx : x < 4294967296) (w : World) : Calls Try.prog 64 #[.int .u32 x, .int .i64 (-7)] w fun e w' => e = .returned (.int .u32 (Scv.rotr 7 x)) ∧ w = w' :=
  rot_calls 7 (-7) 25 (by decide +kernel) (by omega) (by omega) (by omega) (by omega) x hx w
theorem rot18 (x : Nat) (hx : x < 4294967296) (w : World) : Calls Try.prog 64 #[.int .u32 x, .int .i64 (-18)] w fun e w' => e = .returned (.int .u32 (Scv.rotr 18 x)) ∧ w = w' :=
  rot_calls 18 (-18) 14 (by decide +kernel) (by omega) (by omega) (by omega) (by omega) x hx w
theorem rot17 (x : Nat) (hx : x < 4294967296) (w : World) : Calls Try.prog 64 #[.int .u32 x, .int .i64 (-17)] w fun e w' => e = .returned (.int .u32 (Scv.rotr 17 x)) ∧ w = w' :=
  rot_calls 17 (-17) 15 (by decide +kernel) (by omega) (by omega) (by omega) (by omega) x hx w
theorem rot19 (x : Nat) (hx : x < 4294967296) (w : World) : Calls Try.prog 64 #[.int .u32 x, .int .i64 (-19)] w fun e w' => e = .returned (.int .u32 (Scv.rotr 19 x)) ∧ w = w' :=
  rot_calls 19 (-19) 13 (by decide +kernel) (by omega) (by omega) (by omega) (by omega) x hx w
theorem rot6 (x : Nat) (hx : x < 4294967296) (w : World) : Calls Try.prog 64 #[.int .u32 x, .int .i64 (-6)] w fun e w' => e = .returned (.int .u32 (Scv.rotr 6 x)) ∧ w = w' :=
  rot_calls 6 (-6) 26 (by decide +kernel) (by omega) (by omega) (by omega) (by omega) x hx w
theorem rot11 (x : Nat) (hx : x < 4294967296) (w : World) : Calls Try.prog 64 #[.int .u32 x, .int .i64 (-11)] w fun e w' => e = .returned (.int .u32 (Scv.rotr 11 x)) ∧ w = w' :=
  rot_calls 11 (-11) 21 (by decide +kernel) (by omega) (by omega) (by omega) (by omega) x hx w
theorem rot25 (x : Nat) (hx : x < 4294967296) (w : World) : Calls Try.prog 64 #[.int .u32 x, .int .i64 (-25)] w fun e w' => e = .returned (.int .u32 (Scv.rotr 25 x)) ∧ w = w' :=
  rot_calls 25 (-25) 7 (by decide +kernel) (by omega) (by omega) (by omega) (by omega) x hx w
theorem rot2 (x : Nat) (hx : x < 4294967296) (w : World) : Calls Try.prog 64 #[.int .u32 x, .int .i64 (-2)] w fun e w' => e = .returned (.int .u32 (Scv.rotr 2 x)) ∧ w = w' :=
  rot_calls 2 (-2) 30 (by decide +kernel) (by omega) (by omega) (by omega) (by omega) x hx w
theorem rot13 (x : Nat) (hx : x < 4294967296) (w : World) : Calls Try.prog 64 #[.int .u32 x, .int .i64 (-13)] w fun e w' => e = .returned (.int .u32 (Scv.rotr 13 x)) ∧ w = w' :=
  rot_calls 13 (-13) 19 (by decide +kernel) (by omega) (by omega) (by omega) (by omega) x hx w
theorem rot22 (x : Nat) (hx : x < 4294967296) (w : World) : Calls Try.prog 64 #[.int .u32 x, .int .i64 (-22)] w fun e w' => e = .returned (.int .u32 (Scv.rotr 22 x)) ∧ w = w' :=
  rot_calls 22 (-22) 10 (by decide +kernel) (by omega) (by omega) (by omega) (by omega) x hx w
/-- by which count is it turned -/
def rotN (k : Int) : Nat := (-k).toNat
theorem rot_any (k : Int) (h : k = -2 ∨ k = -6 ∨ k = -11 ∨ k = -13 ∨ k = -22 ∨ k = -25) (x : Nat) (hx : x < 4294967296) (w : World) :
    Calls Try.prog 64 #[.int .u32 x, .int .i64 k] w fun e w' => e = .returned (.int .u32 (Scv.rotr (rotN k) x)) ∧ w = w' := by
  rcases h with rfl | rfl | rfl | rfl | rfl | rfl
  · exact rot2 x hx w
  · exact rot6 x hx w
  · exact rot11 x hx w
  · exact rot13 x hx w
  · exact rot22 x hx w
  · exact rot25 x hx w
end Go.Proofs.Yteicjpjniaohhaa
