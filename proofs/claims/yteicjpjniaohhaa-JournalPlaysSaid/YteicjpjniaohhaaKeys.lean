/- One-time keys and trees of them, by definition; what a key signs of a text is taken under its public key. Plain: no program in sight. -/
import Derived.Test.YteicjpjniaohhaaSha
namespace Scv

abbrev Bytes := List UInt8

def tSecret : Bytes := [115, 101, 99, 114, 101, 116]
def tHide : Bytes := [104, 105, 100, 101]
def tText : Bytes := [116, 101, 120, 116]
def tPublic : Bytes := [112, 117, 98, 108, 105, 99]
def tLeaf : Bytes := [108, 101, 97, 102]
def tRecord : Bytes := [114, 101, 99, 111, 114, 100]
def tFront : Bytes := [102, 114, 111, 110, 116]

def secret (seed : Bytes) (n i s : Nat) : Bytes := forSum tSecret [seed, [b8 (n / 256), b8 n, b8 i, b8 s]]
def hide (s : Bytes) : Bytes := forSum tHide [s]
/-- bit i of a sum -/
def bitOf (id : Bytes) (i : Nat) : Nat := byt id (i / 8) / 2 ^ (7 - i % 8) % 2
def side (text : Bytes) (i : Nat) : Nat := bitOf (forSum tText [text]) i
def joinS (h : Nat → Bytes × Bytes) : Bytes := forSum tPublic [(List.range 64).flatMap fun i => (h i).1 ++ (h i).2]
def opub (seed : Bytes) (n : Nat) : Bytes := joinS fun i => (hide (secret seed n i 0), hide (secret seed n i 1))
def shownS (seed : Bytes) (n : Nat) (text : Bytes) (i : Nat) : Bytes := secret seed n i (side text i)
def otherS (seed : Bytes) (n : Nat) (text : Bytes) (i : Nat) : Bytes := hide (secret seed n i (1 - side text i))
def pairS (sh ot : Nat → Bytes) (text : Bytes) (i : Nat) : Bytes × Bytes := if side text i = 0 then (hide (sh i), ot i) else (ot i, hide (sh i))
def showsS (sh ot : Nat → Bytes) (text : Bytes) : Bytes := joinS (pairS sh ot text)

theorem side_lt (text : Bytes) (i : Nat) : side text i < 2 := Nat.mod_lt _ (by omega)
theorem shows_sign (seed : Bytes) (n : Nat) (text : Bytes) : showsS (shownS seed n text) (otherS seed n text) text = opub seed n := by
  unfold showsS opub
  congr 1
  funext i
  have h := side_lt text i
  unfold pairS shownS otherS
  by_cases h0 : side text i = 0
  · simp [h0]
  · have h1 : side text i = 1 := by omega
    simp [h1]

def leafS (p : Bytes) : Bytes := forSum tLeaf [p]
/-- the sums of a seed's tree: level d, place i -/
def lv (seed : Bytes) : Nat → Nat → Bytes
  | 0, i => leafS (opub seed i)
  | d + 1, i => node (lv seed d (2 * i)) (lv seed d (2 * i + 1))
def pubS (seed : Bytes) : Bytes := lv seed 3 0
/-- the other one of a pair -/
def twin (i : Nat) : Nat := if i % 2 = 0 then i + 1 else i - 1
def pathS (seed : Bytes) (n d : Nat) : Bytes := lv seed d (twin (n / 2 ^ d))
/-- one step up -/
def up (n : Nat) (t p : Bytes) : Bytes := if n % 2 = 0 then node t p else node p t
def topS (t : Bytes) (n : Nat) (path : Nat → Bytes) : Bytes := up (n / 4) (up (n / 2) (up n t (path 0)) (path 1)) (path 2)
def checkS (pub : Bytes) (n : Int) (sh ot path : Nat → Bytes) (text : Bytes) : Nat :=
  if n < 0 ∨ 8 ≤ n then 1 else if topS (leafS (showsS sh ot text)) n.toNat path = pub then 0 else 30

theorem up_lv (seed : Bytes) (d i : Nat) : up i (lv seed d i) (lv seed d (twin i)) = lv seed (d + 1) (i / 2) := by
  unfold up twin
  by_cases h : i % 2 = 0
  · rw [if_pos h, if_pos h, lv, show 2 * (i / 2) = i from by omega]
  · rw [if_neg h, if_neg h, lv, show 2 * (i / 2) + 1 = i from by omega, show 2 * (i / 2) = i - 1 from by omega]
theorem top_lv (seed : Bytes) (n : Nat) (h : n < 8) : topS (lv seed 0 n) n (pathS seed n) = pubS seed := by
  unfold topS pathS pubS
  rw [Nat.pow_zero, Nat.div_one, up_lv, show (2 : Nat) ^ 1 = 2 from rfl, up_lv, show (2 : Nat) ^ 2 = 4 from rfl, show n / 4 = n / 2 / 2 from by omega, up_lv, show n / 2 / 2 / 2 = 0 from by omega]
/-- what a key of a seed signs is taken under the seed's public key -/
theorem check_sign (seed : Bytes) (n : Nat) (h : n < 8) (text : Bytes) : checkS (pubS seed) n (shownS seed n text) (otherS seed n text) (pathS seed n) text = 0 := by
  unfold checkS
  rw [if_neg (by omega), shows_sign, Int.toNat_natCast]
  exact if_pos (top_lv seed n h)

end Scv
