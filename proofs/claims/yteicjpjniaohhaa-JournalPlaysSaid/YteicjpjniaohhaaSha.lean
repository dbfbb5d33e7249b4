/- SHA-256 as the two texts have it, by definition: words are natural numbers, texts are lists of bytes. Plain: no program in sight. -/
namespace Scv

def rotr (n x : Nat) : Nat := (x >>> n ||| x <<< (32 - n)) % 4294967296
def sg0 (x : Nat) : Nat := rotr 7 x ^^^ rotr 18 x ^^^ x >>> 3
def sg1 (x : Nat) : Nat := rotr 17 x ^^^ rotr 19 x ^^^ x >>> 10
def bs0 (x : Nat) : Nat := rotr 2 x ^^^ rotr 13 x ^^^ rotr 22 x
def bs1 (x : Nat) : Nat := rotr 6 x ^^^ rotr 11 x ^^^ rotr 25 x
def ch (e f g : Nat) : Nat := g ^^^ (e &&& (f ^^^ g))
def mj (a b c : Nat) : Nat := (a &&& b) ||| (c &&& (a ||| b))

def KK : List Nat := [
    0x428a2f98, 0x71374491, 0xb5c0fbcf, 0xe9b5dba5, 0x3956c25b, 0x59f111f1, 0x923f82a4, 0xab1c5ed5,
    0xd807aa98, 0x12835b01, 0x243185be, 0x550c7dc3, 0x72be5d74, 0x80deb1fe, 0x9bdc06a7, 0xc19bf174,
    0xe49b69c1, 0xefbe4786, 0x0fc19dc6, 0x240ca1cc, 0x2de92c6f, 0x4a7484aa, 0x5cb0a9dc, 0x76f988da,
    0x983e5152, 0xa831c66d, 0xb00327c8, 0xbf597fc7, 0xc6e00bf3, 0xd5a79147, 0x06ca6351, 0x14292967,
    0x27b70a85, 0x2e1b2138, 0x4d2c6dfc, 0x53380d13, 0x650a7354, 0x766a0abb, 0x81c2c92e, 0x92722c85,
    0xa2bfe8a1, 0xa81a664b, 0xc24b8b70, 0xc76c51a3, 0xd192e819, 0xd6990624, 0xf40e3585, 0x106aa070,
    0x19a4c116, 0x1e376c08, 0x2748774c, 0x34b0bcb5, 0x391c0cb3, 0x4ed8aa4a, 0x5b9cca4f, 0x682e6ff3,
    0x748f82ee, 0x78a5636f, 0x84c87814, 0x8cc70208, 0x90befffa, 0xa4506ceb, 0xbef9a3f7, 0xc67178f2]

/-- the i-th byte of a block, as a number -/
def byt (b : List UInt8) (i : Nat) : Nat := (b.getD i 0).toNat
/-- the i-th word of a block -/
def word (b : List UInt8) (i : Nat) : Nat := ((byt b (4 * i) * 256 + byt b (4 * i + 1)) * 256 + byt b (4 * i + 2)) * 256 + byt b (4 * i + 3)
/-- the word that follows upon some -/
def wnext (b : List UInt8) (l : List Nat) : Nat :=
  if l.length < 16 then word b l.length
  else (l.getD (l.length - 16) 0 + sg0 (l.getD (l.length - 15) 0) + l.getD (l.length - 7) 0 + sg1 (l.getD (l.length - 2) 0)) % 4294967296
/-- the first n words of a block -/
def wl (b : List UInt8) : Nat → List Nat
  | 0 => []
  | n + 1 => wl b n ++ [wnext b (wl b n)]

structure St where
  a : Nat
  b : Nat
  c : Nat
  d : Nat
  e : Nat
  f : Nat
  g : Nat
  h : Nat

def t1 (v : St) (k w : Nat) : Nat := v.h + bs1 v.e + ch v.e v.f v.g + k + w
def t2 (v : St) : Nat := bs0 v.a + mj v.a v.b v.c
def step (k w : Nat) (v : St) : St :=
  ⟨(t1 v k w + t2 v) % 4294967296, v.a, v.b, v.c, (v.d + t1 v k w) % 4294967296, v.e, v.f, v.g⟩
def rnds (b : List UInt8) (s : St) : Nat → St
  | 0 => s
  | n + 1 => step (KK.getD n 0) ((wl b 64).getD n 0) (rnds b s n)
def St.plus (s v : St) : St :=
  ⟨(s.a + v.a) % 4294967296, (s.b + v.b) % 4294967296, (s.c + v.c) % 4294967296, (s.d + v.d) % 4294967296, (s.e + v.e) % 4294967296, (s.f + v.f) % 4294967296, (s.g + v.g) % 4294967296, (s.h + v.h) % 4294967296⟩
def comp (s : St) (b : List UInt8) : St := s.plus (rnds b s 64)
def St.init : St := ⟨0x6a09e667, 0xbb67ae85, 0x3c6ef372, 0xa54ff53a, 0x510e527f, 0x9b05688c, 0x1f83d9ab, 0x5be0cd19⟩
def St.list (s : St) : List Nat := [s.a, s.b, s.c, s.d, s.e, s.f, s.g, s.h]

/-- the i-th block of 64 bytes -/
def blk (m : List UInt8) (i : Nat) : List UInt8 := (m.drop (64 * i)).take 64
/-- the blocks, in their order -/
def blks (m : List UInt8) : List (List UInt8) := (List.range (m.length / 64)).map (blk m)
def b8 (n : Nat) : UInt8 := UInt8.ofNat n
/-- eight bytes of a number -/
def be64 (n : Nat) : List UInt8 := [b8 (n / 72057594037927936), b8 (n / 281474976710656), b8 (n / 1099511627776), b8 (n / 4294967296), b8 (n / 16777216), b8 (n / 65536), b8 (n / 256), b8 n]
def be32 (n : Nat) : List UInt8 := [b8 (n / 16777216), b8 (n / 65536), b8 (n / 256), b8 n]
/-- what is laid behind a text -/
def tail (n : Nat) : List UInt8 := (128 :: List.replicate ((119 - n % 64) % 64) 0) ++ be64 (8 * n)
def pad (m : List UInt8) : List UInt8 := m ++ tail m.length
def w4 (x : Nat) : List UInt8 := be32 x
def St.bytes (s : St) : List UInt8 := s.list.flatMap w4
/-- the sum of a text -/
def sha (m : List UInt8) : List UInt8 := ((blks (pad m)).foldl comp St.init).bytes

/-- a text with its length ahead -/
def sized (p : List UInt8) : List UInt8 := be32 p.length ++ p
/-- parts for a purpose -/
def forEnc (purpose : List UInt8) (parts : List (List UInt8)) : List UInt8 := purpose ++ 0 :: parts.flatMap sized
def forSum (purpose : List UInt8) (parts : List (List UInt8)) : List UInt8 := sha (forEnc purpose parts)
def node (a b : List UInt8) : List UInt8 := sha (1 :: (a ++ b))

theorem sha_length (m : List UInt8) : (sha m).length = 32 := by
  simp [sha, St.bytes, St.list, w4, be32]

theorem wl_length (b : List UInt8) (n : Nat) : (wl b n).length = n := by
  induction n with
  | zero => rfl
  | succ n ih => simp [wl, ih]

theorem pad_length (m : List UInt8) : (pad m).length = m.length + 9 + (119 - m.length % 64) % 64 := by
  simp [pad, tail, be64]; omega

theorem pad_mod (m : List UInt8) : (pad m).length % 64 = 0 := by
  rw [pad_length]; omega

theorem wl_set (b : List UInt8) (n : Nat) (h : n < 64) : (wl b n ++ List.replicate (64 - n) 0).set n (wnext b (wl b n)) = wl b (n + 1) ++ List.replicate (64 - (n + 1)) 0 := by
  have e : 64 - n = (64 - (n + 1)) + 1 := by omega
  rw [e, List.replicate_succ, List.set_append_right _ _ (by rw [wl_length]; exact Nat.le_refl _), wl_length, Nat.sub_self, List.set_cons_zero, wl, List.append_assoc]
  rfl
theorem wl_get (b : List UInt8) (n i : Nat) (r : List Nat) (h : i < n) : (wl b n ++ r).getD i 0 = (wl b n).getD i 0 := by
  rw [List.getD_eq_getElem?_getD, List.getD_eq_getElem?_getD, List.getElem?_append_left (by rw [wl_length]; exact h)]
end Scv
