/- Numbers of the model (bits, wrapped words) as natural numbers. -/
import Derived.WalkKit
import Derived.Test.YteicjpjniaohhaaSha
namespace Scv
open Go
theorem u_wrap (k : IntKind) (hs : k.signed = false) (n : Nat) : k.wrap (n : Int) = ((n % 2 ^ k.bits : Nat) : Int) := by
  unfold IntKind.wrap
  simp only [hs, Bool.false_and, Bool.false_eq_true, if_false]
  rw [Int.natCast_emod]; norm_cast
theorem ofInt_nat (w x : Nat) (hx : x < 2 ^ w) : (BitVec.ofInt w (x : Int)).toNat = x := by
  rw [BitVec.toNat_ofInt]
  have : ((x : Int) % ((2 ^ w : Nat) : Int)) = (x : Int) := Int.emod_eq_of_lt (by omega) (by exact_mod_cast hx)
  rw [this]; rfl
theorem bits_and (k : IntKind) (hs : k.signed = false) (x y : Nat) (hx : x < 2 ^ k.bits) (hy : y < 2 ^ k.bits) : bits .and k x y = ((x &&& y : Nat) : Int) := by
  show k.wrap ((BitVec.ofInt k.bits x &&& BitVec.ofInt k.bits y).toNat : Int) = _
  rw [BitVec.toNat_and, ofInt_nat _ _ hx, ofInt_nat _ _ hy, u_wrap k hs, Nat.mod_eq_of_lt (Nat.lt_of_le_of_lt Nat.and_le_left hx)]
theorem bits_or (k : IntKind) (hs : k.signed = false) (x y : Nat) (hx : x < 2 ^ k.bits) (hy : y < 2 ^ k.bits) : bits .or k x y = ((x ||| y : Nat) : Int) := by
  show k.wrap ((BitVec.ofInt k.bits x ||| BitVec.ofInt k.bits y).toNat : Int) = _
  rw [BitVec.toNat_or, ofInt_nat _ _ hx, ofInt_nat _ _ hy, u_wrap k hs, Nat.mod_eq_of_lt (Nat.or_lt_two_pow hx hy)]
theorem bits_xor (k : IntKind) (hs : k.signed = false) (x y : Nat) (hx : x < 2 ^ k.bits) (hy : y < 2 ^ k.bits) : bits .xor k x y = ((x ^^^ y : Nat) : Int) := by
  show k.wrap ((BitVec.ofInt k.bits x ^^^ BitVec.ofInt k.bits y).toNat : Int) = _
  rw [BitVec.toNat_xor, ofInt_nat _ _ hx, ofInt_nat _ _ hy, u_wrap k hs, Nat.mod_eq_of_lt (Nat.xor_lt_two_pow hx hy)]

theorem b32_and (x y : Nat) (hx : x < 4294967296) (hy : y < 4294967296) : bits .and .u32 x y = ((x &&& y : Nat) : Int) := bits_and .u32 rfl x y hx hy
theorem b32_or (x y : Nat) (hx : x < 4294967296) (hy : y < 4294967296) : bits .or .u32 x y = ((x ||| y : Nat) : Int) := bits_or .u32 rfl x y hx hy
theorem b32_xor (x y : Nat) (hx : x < 4294967296) (hy : y < 4294967296) : bits .xor .u32 x y = ((x ^^^ y : Nat) : Int) := bits_xor .u32 rfl x y hx hy
theorem rotr_lt (n x : Nat) : rotr n x < 4294967296 := Nat.mod_lt _ (by omega)
/-- a word turned to the right, as the library's function comes to it -/
theorem rot_go (n x : Nat) (hx : x < 4294967296) :
    bits .or .u32 ((x : Int) * 2 ^ (32 - n) % 4294967296) ((x : Int) / 2 ^ n) = (rotr n x : Int) := by
  have e1 : (x : Int) * 2 ^ (32 - n) % 4294967296 = ((x * 2 ^ (32 - n) % 4294967296 : Nat) : Int) := by
    rw [Int.natCast_emod, Int.natCast_mul, Int.natCast_pow]; rfl
  have e2 : (x : Int) / 2 ^ n = ((x / 2 ^ n : Nat) : Int) := by norm_cast
  rw [e1, e2, b32_or _ _ (Nat.mod_lt _ (by omega)) (Nat.lt_of_le_of_lt (Nat.div_le_self _ _) hx)]
  congr 1
  unfold rotr
  rw [show (4294967296 : Nat) = 2 ^ 32 from rfl, Nat.or_mod_two_pow, Nat.or_comm, Nat.shiftLeft_eq, Nat.shiftRight_eq_div_pow, Nat.mod_eq_of_lt (Nat.lt_of_le_of_lt (Nat.div_le_self x (2 ^ n)) hx)]
theorem or_add (a b i : Nat) (h : b < 2 ^ i) : (a * 2 ^ i) ||| b = a * 2 ^ i + b := by
  rw [← Nat.shiftLeft_eq, ← Nat.shiftLeft_add_eq_or_of_lt h, Nat.shiftLeft_eq]
theorem wrap32 (x : Nat) : IntKind.u32.wrap (x : Int) = ((x % 4294967296 : Nat) : Int) := u_wrap .u32 rfl x
theorem wrap32_of (x : Nat) (h : x < 4294967296) : IntKind.u32.wrap (x : Int) = (x : Int) := by rw [wrap32, Nat.mod_eq_of_lt h]
theorem wrap32_mul (x m : Nat) (M : Int) (hM : M = (m : Int)) (h : x * m < 4294967296) : IntKind.u32.wrap ((x : Int) * M) = ((x * m : Nat) : Int) := by
  rw [hM, ← Int.natCast_mul]; exact wrap32_of _ h
/-- four bytes, the highest first, as the program lays them together -/
theorem word_go (x0 x1 x2 x3 : Nat) (h0 : x0 < 256) (h1 : x1 < 256) (h2 : x2 < 256) (h3 : x3 < 256) :
    bits .or .u32 (bits .or .u32 (bits .or .u32 (IntKind.u32.wrap (IntKind.u32.wrap (x0 : Int) * 16777216)) (IntKind.u32.wrap (IntKind.u32.wrap (x1 : Int) * 65536)))
      (IntKind.u32.wrap (IntKind.u32.wrap (x2 : Int) * 256))) (IntKind.u32.wrap (x3 : Int)) = ((((x0 * 256 + x1) * 256 + x2) * 256 + x3 : Nat) : Int) := by
  rewrite [wrap32_of x0 (by omega), wrap32_of x1 (by omega), wrap32_of x2 (by omega), wrap32_of x3 (by omega)]
  have e0 := wrap32_mul x0 16777216 16777216 (by omega) (by omega)
  have e1 := wrap32_mul x1 65536 65536 (by omega) (by omega)
  have e2 := wrap32_mul x2 256 256 (by omega) (by omega)
  rewrite [e0, e1, e2, b32_or _ _ (by omega) (by omega)]
  have o1 : x0 * 16777216 ||| x1 * 65536 = x0 * 16777216 + x1 * 65536 := by
    have := or_add x0 (x1 * 65536) 24 (by omega); rewrite [show (2 : Nat) ^ 24 = 16777216 from by decide] at this; exact this
  rewrite [o1, b32_or _ _ (by omega) (by omega)]
  have o2 : (x0 * 16777216 + x1 * 65536) ||| x2 * 256 = x0 * 16777216 + x1 * 65536 + x2 * 256 := by
    have := or_add (x0 * 256 + x1) (x2 * 256) 16 (by omega)
    rewrite [show (x0 * 256 + x1) * 2 ^ 16 = x0 * 16777216 + x1 * 65536 from by omega] at this; exact this
  rewrite [o2, b32_or _ _ (by omega) (by omega)]
  have o3 : (x0 * 16777216 + x1 * 65536 + x2 * 256) ||| x3 = x0 * 16777216 + x1 * 65536 + x2 * 256 + x3 := by
    have := or_add ((x0 * 256 + x1) * 256 + x2) x3 8 (by omega)
    rewrite [show ((x0 * 256 + x1) * 256 + x2) * 2 ^ 8 = x0 * 16777216 + x1 * 65536 + x2 * 256 from by omega] at this; exact this
  rewrite [o3]
  have : x0 * 16777216 + x1 * 65536 + x2 * 256 + x3 = ((x0 * 256 + x1) * 256 + x2) * 256 + x3 := by omega
  rewrite [this]; rfl
theorem div_nat (x m : Nat) (M : Int) (hM : M = (m : Int)) : (x : Int) / M = ((x / m : Nat) : Int) := by rw [hM]; rfl
theorem shr_nat (x n : Nat) : x / 2 ^ n = x >>> n := (Nat.shiftRight_eq_div_pow x n).symm
theorem wrap32_add (a b : Nat) : IntKind.u32.wrap ((a : Int) + (b : Int)) = (((a + b) % 4294967296 : Nat) : Int) := by
  rw [← Int.natCast_add]; exact wrap32 _
theorem sg0_go (y : Nat) (h : y < 4294967296) : bits .xor .u32 (bits .xor .u32 (rotr 7 y : Nat) (rotr 18 y : Nat)) ((y : Int) / 8) = (sg0 y : Nat) := by
  rewrite [div_nat y 8 8 (by omega), b32_xor _ _ (rotr_lt _ _) (rotr_lt _ _), b32_xor _ _ (Nat.xor_lt_two_pow (n := 32) (rotr_lt _ _) (rotr_lt _ _)) (Nat.lt_of_le_of_lt (Nat.div_le_self _ _) h)]
  have e := shr_nat y 3
  rewrite [show (2 : Nat) ^ 3 = 8 from rfl] at e
  rewrite [e]; rfl
theorem sg1_go (y : Nat) (h : y < 4294967296) : bits .xor .u32 (bits .xor .u32 (rotr 17 y : Nat) (rotr 19 y : Nat)) ((y : Int) / 1024) = (sg1 y : Nat) := by
  rewrite [div_nat y 1024 1024 (by omega), b32_xor _ _ (rotr_lt _ _) (rotr_lt _ _), b32_xor _ _ (Nat.xor_lt_two_pow (n := 32) (rotr_lt _ _) (rotr_lt _ _)) (Nat.lt_of_le_of_lt (Nat.div_le_self _ _) h)]
  have e := shr_nat y 10
  rewrite [show (2 : Nat) ^ 10 = 1024 from by decide] at e
  rewrite [e]; rfl
theorem bs0_go (y : Nat) : bits .xor .u32 (bits .xor .u32 (rotr 2 y : Nat) (rotr 13 y : Nat)) (rotr 22 y : Nat) = (bs0 y : Nat) := by
  rewrite [b32_xor _ _ (rotr_lt _ _) (rotr_lt _ _), b32_xor _ _ (Nat.xor_lt_two_pow (n := 32) (rotr_lt _ _) (rotr_lt _ _)) (rotr_lt _ _)]; rfl
theorem bs1_go (y : Nat) : bits .xor .u32 (bits .xor .u32 (rotr 6 y : Nat) (rotr 11 y : Nat)) (rotr 25 y : Nat) = (bs1 y : Nat) := by
  rewrite [b32_xor _ _ (rotr_lt _ _) (rotr_lt _ _), b32_xor _ _ (Nat.xor_lt_two_pow (n := 32) (rotr_lt _ _) (rotr_lt _ _)) (rotr_lt _ _)]; rfl
theorem ch_go (e f g : Nat) (he : e < 4294967296) (hf : f < 4294967296) (hg : g < 4294967296) : bits .xor .u32 (g : Int) (bits .and .u32 (e : Int) (bits .xor .u32 (f : Int) (g : Int))) = (ch e f g : Nat) := by
  have h1 : f ^^^ g < 4294967296 := Nat.xor_lt_two_pow (n := 32) hf hg
  rewrite [b32_xor f g hf hg, b32_and _ _ he h1, b32_xor _ _ hg (Nat.lt_of_le_of_lt Nat.and_le_left he)]; rfl
theorem mj_go (a b c : Nat) (ha : a < 4294967296) (hb : b < 4294967296) (hc : c < 4294967296) :
    bits .or .u32 (bits .and .u32 (a : Int) (b : Int)) (bits .and .u32 (c : Int) (bits .or .u32 (a : Int) (b : Int))) = (mj a b c : Nat) := by
  rewrite [b32_and a b ha hb, b32_or a b ha hb, b32_and _ _ hc (Nat.or_lt_two_pow (n := 32) ha hb), b32_or _ _ (Nat.lt_of_le_of_lt Nat.and_le_left ha) (Nat.lt_of_le_of_lt Nat.and_le_left hc)]; rfl
/-- the word that follows upon some, as the program lays it together -/
theorem sched_go (y1 y2 y3 y4 : Nat) (h1 : y1 < 4294967296) (h2 : y2 < 4294967296) :
    IntKind.u32.wrap (IntKind.u32.wrap (IntKind.u32.wrap ((y3 : Int) + bits .xor .u32 (bits .xor .u32 (rotr 7 y1 : Nat) (rotr 18 y1 : Nat)) ((y1 : Int) / 8)) + (y4 : Int))
      + bits .xor .u32 (bits .xor .u32 (rotr 17 y2 : Nat) (rotr 19 y2 : Nat)) ((y2 : Int) / 1024)) = (((y3 + sg0 y1 + y4 + sg1 y2) % 4294967296 : Nat) : Int) := by
  rewrite [sg0_go y1 h1, sg1_go y2 h2, wrap32_add, wrap32_add, wrap32_add]
  congr 1
  omega
theorem t1_go (v : St) (k w : Nat) (he : v.e < 4294967296) (hf : v.f < 4294967296) (hg : v.g < 4294967296) :
    IntKind.u32.wrap (IntKind.u32.wrap (IntKind.u32.wrap (IntKind.u32.wrap ((v.h : Int) + bits .xor .u32 (bits .xor .u32 (rotr 6 v.e : Nat) (rotr 11 v.e : Nat)) (rotr 25 v.e : Nat))
      + bits .xor .u32 (v.g : Int) (bits .and .u32 (v.e : Int) (bits .xor .u32 (v.f : Int) (v.g : Int)))) + (k : Int)) + (w : Int)) = ((t1 v k w % 4294967296 : Nat) : Int) := by
  rewrite [bs1_go, ch_go _ _ _ he hf hg, wrap32_add, wrap32_add, wrap32_add, wrap32_add]
  unfold t1
  congr 1
  omega
theorem t2_go (v : St) (ha : v.a < 4294967296) (hb : v.b < 4294967296) (hc : v.c < 4294967296) :
    IntKind.u32.wrap (bits .xor .u32 (bits .xor .u32 (rotr 2 v.a : Nat) (rotr 13 v.a : Nat)) (rotr 22 v.a : Nat)
      + bits .or .u32 (bits .and .u32 (v.a : Int) (v.b : Int)) (bits .and .u32 (v.c : Int) (bits .or .u32 (v.a : Int) (v.b : Int)))) = ((t2 v % 4294967296 : Nat) : Int) := by
  rewrite [bs0_go, mj_go _ _ _ ha hb hc, wrap32_add]; rfl
theorem mod_nat (a : Nat) : ((a : Int)) % 4294967296 = ((a % 4294967296 : Nat) : Int) := by omega
theorem t1_mod (v : St) (k w : Nat) (he : v.e < 4294967296) (hf : v.f < 4294967296) (hg : v.g < 4294967296) :
    ((v.h : Int) + bits .xor .u32 (bits .xor .u32 (rotr 6 v.e : Nat) (rotr 11 v.e : Nat)) (rotr 25 v.e : Nat)
      + bits .xor .u32 (v.g : Int) (bits .and .u32 (v.e : Int) (bits .xor .u32 (v.f : Int) (v.g : Int))) + (k : Int) + (w : Int)) % 4294967296 = ((t1 v k w % 4294967296 : Nat) : Int) := by
  rewrite [bs1_go, ch_go _ _ _ he hf hg, ← mod_nat]
  unfold t1
  simp only [Int.natCast_add]
theorem t2_mod (v : St) (ha : v.a < 4294967296) (hb : v.b < 4294967296) (hc : v.c < 4294967296) :
    (bits .xor .u32 (bits .xor .u32 (rotr 2 v.a : Nat) (rotr 13 v.a : Nat)) (rotr 22 v.a : Nat)
      + bits .or .u32 (bits .and .u32 (v.a : Int) (v.b : Int)) (bits .and .u32 (v.c : Int) (bits .or .u32 (v.a : Int) (v.b : Int)))) % 4294967296 = ((t2 v % 4294967296 : Nat) : Int) := by
  rewrite [bs0_go, mj_go _ _ _ ha hb hc, ← mod_nat]
  unfold t2
  simp only [Int.natCast_add]
theorem step_a (v : St) (k w : Nat) : (((t1 v k w % 4294967296 : Nat) : Int) + ((t2 v % 4294967296 : Nat) : Int)) % 4294967296 = ((step k w v).a : Nat) := by
  show _ = (((t1 v k w + t2 v) % 4294967296 : Nat) : Int)
  omega
theorem step_e (v : St) (k w : Nat) : ((v.d : Int) + ((t1 v k w % 4294967296 : Nat) : Int)) % 4294967296 = ((step k w v).e : Nat) := by
  show _ = (((v.d + t1 v k w) % 4294967296 : Nat) : Int)
  omega
end Scv
