/- Words of 64 bits as the reference has them. Plain. -/
import Derived.Test.YteicjpjniaohhaaRFilled
import Derived.Test.YteicjpjniaohhaaRTurn
set_option linter.unusedVariables false
set_option linter.unusedSimpArgs false
namespace Scv
open Go Go.RowKit
theorem ch_ref (e f g : Nat) (he : e < 4294967296) (hg : g < 4294967296) : (e &&& f) ||| ((4294967295 - e) &&& g) = ch e f g := by
  have hsub : 4294967295 - e = 2 ^ 32 - (e + 1) := by omega
  apply Nat.eq_of_testBit_eq
  intro i
  unfold ch
  rw [Nat.testBit_or, Nat.testBit_and, Nat.testBit_and, Nat.testBit_xor, Nat.testBit_and, Nat.testBit_xor, hsub, Nat.testBit_two_pow_sub_succ (show e < 2 ^ 32 by omega)]
  by_cases hi : i < 32
  · cases e.testBit i <;> cases f.testBit i <;> cases g.testBit i <;> simp [hi]
  · have h1 : e.testBit i = false := Nat.testBit_lt_two_pow (Nat.lt_of_lt_of_le he (show (2 ^ 32 : Nat) ≤ 2 ^ i from Nat.pow_le_pow_right (by omega) (by omega)))
    have h2 : g.testBit i = false := Nat.testBit_lt_two_pow (Nat.lt_of_lt_of_le hg (show (2 ^ 32 : Nat) ≤ 2 ^ i from Nat.pow_le_pow_right (by omega) (by omega)))
    simp [h1, h2]
theorem mj_ref (a b c : Nat) : ((a &&& b) ||| (a &&& c)) ||| (b &&& c) = mj a b c := by
  apply Nat.eq_of_testBit_eq
  intro i
  unfold mj
  simp only [Nat.testBit_or, Nat.testBit_and]
  cases a.testBit i <;> cases b.testBit i <;> cases c.testBit i <;> rfl
theorem lt64 {x : Nat} (h : x < 4294967296) : x < 2 ^ IntKind.u64.bits := Nat.lt_of_lt_of_le h (by decide)
theorem and_lt (x y : Nat) (h : x < 4294967296) : x &&& y < 4294967296 := Nat.lt_of_le_of_lt Nat.and_le_left h
theorem or_lt (x y : Nat) (h : x < 4294967296) (k : y < 4294967296) : x ||| y < 4294967296 := Nat.or_lt_two_pow (n := 32) h k
theorem xor_lt (x y : Nat) (h : x < 4294967296) (k : y < 4294967296) : x ^^^ y < 4294967296 := Nat.xor_lt_two_pow (n := 32) h k
theorem shr_lt' (x n : Nat) (h : x < 4294967296) : x >>> n < 4294967296 := by rw [Nat.shiftRight_eq_div_pow]; exact Nat.lt_of_le_of_lt (Nat.div_le_self _ _) h
theorem sg0_lt (y : Nat) (h : y < 4294967296) : sg0 y < 4294967296 := xor_lt _ _ (xor_lt _ _ (rotr_lt _ _) (rotr_lt _ _)) (shr_lt' _ _ h)
theorem sg1_lt (y : Nat) (h : y < 4294967296) : sg1 y < 4294967296 := xor_lt _ _ (xor_lt _ _ (rotr_lt _ _) (rotr_lt _ _)) (shr_lt' _ _ h)
theorem bs0_lt (y : Nat) : bs0 y < 4294967296 := xor_lt _ _ (xor_lt _ _ (rotr_lt _ _) (rotr_lt _ _)) (rotr_lt _ _)
theorem bs1_lt (y : Nat) : bs1 y < 4294967296 := xor_lt _ _ (xor_lt _ _ (rotr_lt _ _) (rotr_lt _ _)) (rotr_lt _ _)
theorem ch_lt (e f g : Nat) (he : e < 4294967296) (hg : g < 4294967296) : ch e f g < 4294967296 := by
  unfold ch; exact xor_lt _ _ hg (and_lt _ _ he)
theorem mj_lt (a b c : Nat) (ha : a < 4294967296) (hc : c < 4294967296) : mj a b c < 4294967296 := or_lt _ _ (and_lt _ _ ha) (and_lt _ _ hc)
theorem x64 (x y : Nat) (h : x < 4294967296) (k : y < 4294967296) : bits .xor .u64 (x : Int) (y : Int) = ((x ^^^ y : Nat) : Int) := bits_xor .u64 rfl _ _ (lt64 h) (lt64 k)
theorem a64 (x y : Nat) (h : x < 4294967296) (k : y < 4294967296) : bits .and .u64 (x : Int) (y : Int) = ((x &&& y : Nat) : Int) := bits_and .u64 rfl _ _ (lt64 h) (lt64 k)
theorem o64 (x y : Nat) (h : x < 4294967296) (k : y < 4294967296) : bits .or .u64 (x : Int) (y : Int) = ((x ||| y : Nat) : Int) := bits_or .u64 rfl _ _ (lt64 h) (lt64 k)
theorem sg0_64 (y : Nat) (h : y < 4294967296) : bits .xor .u64 (bits .xor .u64 (rotr 7 y : Nat) (rotr 18 y : Nat)) ((y : Int) / 8) = (sg0 y : Nat) := by
  rw [x64 _ _ (rotr_lt _ _) (rotr_lt _ _), div_nat y 8 8 rfl, x64 _ _ (xor_lt _ _ (rotr_lt _ _) (rotr_lt _ _)) (by omega)]; show ((rotr 7 y ^^^ rotr 18 y ^^^ y / 2 ^ 3 : Nat) : Int) = _; rw [shr_nat]; rfl
theorem sg1_64 (y : Nat) (h : y < 4294967296) : bits .xor .u64 (bits .xor .u64 (rotr 17 y : Nat) (rotr 19 y : Nat)) ((y : Int) / 1024) = (sg1 y : Nat) := by
  rw [x64 _ _ (rotr_lt _ _) (rotr_lt _ _), div_nat y 1024 1024 rfl, x64 _ _ (xor_lt _ _ (rotr_lt _ _) (rotr_lt _ _)) (by omega)]; show ((rotr 17 y ^^^ rotr 19 y ^^^ y / 2 ^ 10 : Nat) : Int) = _; rw [shr_nat]; rfl
theorem bs0_64 (y : Nat) : bits .xor .u64 (bits .xor .u64 (rotr 2 y : Nat) (rotr 13 y : Nat)) (rotr 22 y : Nat) = (bs0 y : Nat) := by
  rw [x64 _ _ (rotr_lt _ _) (rotr_lt _ _), x64 _ _ (xor_lt _ _ (rotr_lt _ _) (rotr_lt _ _)) (rotr_lt _ _)]; rfl
theorem bs1_64 (y : Nat) : bits .xor .u64 (bits .xor .u64 (rotr 6 y : Nat) (rotr 11 y : Nat)) (rotr 25 y : Nat) = (bs1 y : Nat) := by
  rw [x64 _ _ (rotr_lt _ _) (rotr_lt _ _), x64 _ _ (xor_lt _ _ (rotr_lt _ _) (rotr_lt _ _)) (rotr_lt _ _)]; rfl
theorem ch_64 (e f g : Nat) (he : e < 4294967296) (hf : f < 4294967296) (hg : g < 4294967296) :
    bits .or .u64 (bits .and .u64 (e : Int) (f : Int)) (bits .and .u64 (4294967295 - (e : Int)) (g : Int)) = (ch e f g : Nat) := by
  have h1 : (4294967295 : Int) - (e : Int) = ((4294967295 - e : Nat) : Int) := by omega
  rw [h1, a64 _ _ he hf, a64 _ _ (by omega) hg, o64 _ _ (and_lt _ _ he) (and_lt _ _ (by omega)), ch_ref e f g he hg]
theorem mj_64 (a b c : Nat) (ha : a < 4294967296) (hb : b < 4294967296) (hc : c < 4294967296) :
    bits .or .u64 (bits .or .u64 (bits .and .u64 (a : Int) (b : Int)) (bits .and .u64 (a : Int) (c : Int))) (bits .and .u64 (b : Int) (c : Int)) = (mj a b c : Nat) := by
  rw [a64 _ _ ha hb, a64 _ _ ha hc, a64 _ _ hb hc, o64 _ _ (and_lt _ _ ha) (and_lt _ _ ha), o64 _ _ (or_lt _ _ (and_lt _ _ ha) (and_lt _ _ ha)) (and_lt _ _ hb), mj_ref]
/-- a byte of a sum -/
def outAt (s : St) (n : Nat) : UInt8 := b8 (s.list.getD (n / 4) 0 / 2 ^ (24 - 8 * (n % 4)))
theorem outAt_all (s : St) : (List.range 32).map (outAt s) = s.bytes := by
  simp [outAt, St.bytes, St.list, w4, be32, List.range, List.range.loop]
def outTo (s : St) (n : Nat) : List UInt8 := (List.range n).map (outAt s) ++ List.replicate (32 - n) 0
theorem outTo_length (s : St) (n : Nat) (h : n ≤ 32) : (outTo s n).length = 32 := by simp [outTo]; omega
theorem outTo_set (s : St) (n : Nat) (h : n < 32) : (outTo s n).set n (outAt s n) = outTo s (n + 1) := by
  unfold outTo
  rw [List.set_append_right _ _ (by simp), List.length_map, List.length_range, Nat.sub_self, show 32 - n = (31 - n) + 1 from by omega, List.replicate_succ, List.set_cons_zero,
    List.range_succ, List.map_append, List.append_assoc, show 32 - (n + 1) = 31 - n from by omega]; rfl
/-- a word, byte by byte -/
def acc (b : List UInt8) (n : Nat) : Nat → Nat
  | 0 => 0
  | q + 1 => acc b n q * 256 + byt b (4 * n + q)
theorem acc_four (b : List UInt8) (n : Nat) : acc b n 4 = word b n := by simp [acc, word]
theorem acc_lt (b : List UInt8) (n : Nat) : ∀ q, q ≤ 4 → acc b n q < 256 ^ q := by
  have h : ∀ i, byt b i < 256 := fun i => (b.getD i 0).toNat_lt
  intro q hq
  match q, hq with
  | 0, _ => simp [acc]
  | 1, _ => have := h (4 * n + 0); simp only [acc]; omega
  | 2, _ => have := h (4 * n + 0); have := h (4 * n + 1); simp only [acc]; omega
  | 3, _ => have := h (4 * n + 0); have := h (4 * n + 1); have := h (4 * n + 2); simp only [acc]; omega
  | 4, _ => have := h (4 * n + 0); have := h (4 * n + 1); have := h (4 * n + 2); have := h (4 * n + 3); simp only [acc]; omega
/-- arrays of words of 64 bits -/
def u64s (l : List Nat) : Array Value := (l.map fun n : Nat => (.int .u64 (n : Int) : Value)).toArray
theorem u64s_size (l : List Nat) : (u64s l).size = l.length := by simp [u64s]
theorem u64s_get (l : List Nat) (i : Nat) (h : i < l.length) : (u64s l)[i]? = some (.int .u64 (l.getD i 0 : Nat)) := by
  simp [u64s, List.getD_eq_getElem?_getD, List.getElem?_eq_getElem h]
theorem u64s_set (l : List Nat) (i n : Nat) : (u64s l).setIfInBounds i (.int .u64 (n : Int)) = u64s (l.set i n) := by
  simp [u64s, List.map_set]
theorem Blk.word64 {w : World} {g : Nat} {l : List Nat} {t : TypeId} (h : Blk w g (u64s l) t) (i : Nat) (hi : i < l.length) : w.cell? ⟨g, i, none⟩ = some (.int .u64 (l.getD i 0 : Nat)) := by
  rw [h.cell, u64s_get l i hi]
/-- eight words, wherever they lie -/
def Eight (w : World) (g : Nat) (s : St) : Prop := w.cell? ⟨g, 0, none⟩ = some (.int .u64 (s.a : Nat)) ∧ w.cell? ⟨g, 1, none⟩ = some (.int .u64 (s.b : Nat)) ∧ w.cell? ⟨g, 2, none⟩ = some (.int .u64 (s.c : Nat)) ∧ w.cell? ⟨g, 3, none⟩ = some (.int .u64 (s.d : Nat)) ∧
  w.cell? ⟨g, 4, none⟩ = some (.int .u64 (s.e : Nat)) ∧ w.cell? ⟨g, 5, none⟩ = some (.int .u64 (s.f : Nat)) ∧ w.cell? ⟨g, 6, none⟩ = some (.int .u64 (s.g : Nat)) ∧ w.cell? ⟨g, 7, none⟩ = some (.int .u64 (s.h : Nat))
theorem eight_blk {w : World} {g : Nat} {s : St} {T : TypeId} (h : Blk w g (u64s s.list) T) : Eight w g s :=
  ⟨h.word64 0 (by simp [St.list]), h.word64 1 (by simp [St.list]), h.word64 2 (by simp [St.list]), h.word64 3 (by simp [St.list]), h.word64 4 (by simp [St.list]), h.word64 5 (by simp [St.list]), h.word64 6 (by simp [St.list]), h.word64 7 (by simp [St.list])⟩
theorem eight_row {w : World} {base : Nat} {e : TypeId} {v : Value} {s : St} (h : Row w base e v (u64s s.list).toList) : ∃ g cap, v = .slice (some ⟨g, 0, none⟩) 8 cap ∧ base ≤ g ∧ g < w.heap.size ∧ Eight w g s := by
  obtain ⟨ad, c, hv, hc⟩ := h.src
  rcases h with ⟨_, h0⟩ | ⟨g, cap, cur, fr, rfl, h1, h2, _⟩
  · simp [u64s, St.list] at h0
  · cases hv
    have hh : ∀ j u, (u64s s.list).toList[j]? = some u → w.cell? ⟨g, j, none⟩ = some u := fun j u hu => by
      obtain ⟨p, hp, hcell⟩ := hc j u hu
      cases hp
      rw [add_at, Nat.zero_add] at hcell
      exact hcell
    exact ⟨g, _, rfl, h1, (Array.getElem?_eq_some_iff.1 h2).1, hh 0 _ rfl, hh 1 _ rfl, hh 2 _ rfl, hh 3 _ rfl, hh 4 _ rfl, hh 5 _ rfl, hh 6 _ rfl, hh 7 _ rfl⟩
theorem Eight.grown {w W : World} {g : Nat} {s : St} (h : Eight w g s) (hg : w.grownBy W none) (hl : g < w.heap.size) : Eight W g s := by
  have hk : ∀ j, W.cell? ⟨g, j, none⟩ = w.cell? ⟨g, j, none⟩ := fun j => by unfold World.cell?; rw [hg.block g hl (by simp)]
  unfold Eight
  simp only [hk]
  exact h
theorem Eight.grownR {w W : World} {g gh : Nat} {s : St} (h : Eight w g s) (hg : w.grownBy W (some gh)) (hl : g < w.heap.size) (hn : g ≠ gh) : Eight W g s := by
  have hk : ∀ j, W.cell? ⟨g, j, none⟩ = w.cell? ⟨g, j, none⟩ := fun j => by unfold World.cell?; rw [hg.block g hl (by simpa using hn)]
  unfold Eight
  simp only [hk]
  exact h
theorem eight_get {w : World} {g : Nat} {s : St} (h : Eight w g s) (n : Nat) (hn : n < 8) : w.cell? ⟨g, n, none⟩ = some (.int .u64 (s.list.getD n 0 : Nat)) := by
  obtain ⟨h0, h1, h2, h3, h4, h5, h6, h7⟩ := h
  match n, hn with
  | 0, _ => exact h0
  | 1, _ => exact h1
  | 2, _ => exact h2
  | 3, _ => exact h3
  | 4, _ => exact h4
  | 5, _ => exact h5
  | 6, _ => exact h6
  | 7, _ => exact h7
end Scv
namespace Go.Proofs.Yteicjpjniaohhaa
open Go.RowKit Scv
theorem turn_any (k : Int) (h : 1 ≤ k ∧ k ≤ 31) (x : Nat) (hx : x < 4294967296) (w : World) :
    Calls Try.prog 62 #[.int .u64 x, .int .i64 k] w fun e w' => e = .returned (.int .u64 (rotr k.toNat x)) ∧ ∃ m, w' = w.drewN m := by
  have e : k = (k.toNat : Int) := by omega
  have := turn_calls k.toNat x hx (by omega) (by omega) w
  rw [← e] at this
  exact this
theorem Try.iu64 : (Try.prog.info? 128).map (fun i => (i.size, decide (i.bytes ≤ 128), i.zero)) = some (1, true, some (.int .u64 0)) := by kernel_rfl
theorem Try.su64 : (Try.prog.info? 128).map (·.size) = some 1 := by kernel_rfl
end Go.Proofs.Yteicjpjniaohhaa
