/- A quicker way to reckon SHA-256, for the kernel; and that it comes to the same. -/
import Derived.Test.YteicjpjniaohhaaSha
namespace Scv

/-- n is reckoned before f sees it (in the kernel); it is f n -/
def frc {α : Type} (n : Nat) (f : Nat → α) : α := Nat.rec (f 0) (fun k _ => f (Nat.succ k)) n
theorem frc_eq {α : Type} (n : Nat) (f : Nat → α) : frc n f = f n := by cases n <;> rfl

/-- the rounds from a window of 16 words on -/
def go {α : Type} : List Nat → Nat → Nat → Nat → Nat → Nat → Nat → Nat → Nat → Nat → Nat → Nat → Nat → Nat → Nat → Nat → Nat →
    Nat → Nat → Nat → Nat → Nat → Nat → Nat → Nat → (Nat → Nat → Nat → Nat → Nat → Nat → Nat → Nat → α) → α
  | [], _, _, _, _, _, _, _, _, _, _, _, _, _, _, _, _, a, b, c, d, e, f, g, h, k => k a b c d e f g h
  | q :: l, w0, w1, w2, w3, w4, w5, w6, w7, w8, w9, w10, w11, w12, w13, w14, w15, a, b, c, d, e, f, g, h, k =>
    frc (w1 * 4294967297) fun x => frc (w14 * 4294967297) fun y =>
    frc ((w0 + (x >>> 7 ^^^ x >>> 18 ^^^ w1 >>> 3) % 4294967296 + w9 + (y >>> 17 ^^^ y >>> 19 ^^^ w14 >>> 10) % 4294967296) % 4294967296) fun w16 =>
    frc (e * 4294967297) fun y => frc (a * 4294967297) fun z =>
    frc (h + (y >>> 6 ^^^ y >>> 11 ^^^ y >>> 25) % 4294967296 + (g ^^^ (e &&& (f ^^^ g))) + q + w0) fun t =>
    frc ((d + t) % 4294967296) fun e' =>
    frc ((t + ((z >>> 2 ^^^ z >>> 13 ^^^ z >>> 22) % 4294967296 + ((a &&& b) ||| (c &&& (a ||| b))))) % 4294967296) fun a' =>
    go l w1 w2 w3 w4 w5 w6 w7 w8 w9 w10 w11 w12 w13 w14 w15 w16 a' a b c e' e f g k

theorem rotr_eq (n x : Nat) (hx : x < 4294967296) (hn : n ≤ 32) : (x * 4294967297) >>> n % 4294967296 = rotr n x := by
  unfold rotr
  have h1 : x * 4294967297 = x <<< 32 ||| x := by
    have h := Nat.shiftLeft_add_eq_or_of_lt (i := 32) (b := x) hx x
    rw [← h, Nat.shiftLeft_eq]; omega
  rw [h1, show (4294967296 : Nat) = 2 ^ 32 from rfl]
  apply Nat.eq_of_testBit_eq
  intro i
  simp only [Nat.testBit_mod_two_pow, Nat.testBit_shiftRight, Nat.testBit_or, Nat.testBit_shiftLeft]
  by_cases hi : i < 32
  · simp only [hi, decide_true, Bool.true_and]
    have hbig : ∀ j, 32 ≤ j → x.testBit j = false := fun j hj => Nat.testBit_lt_two_pow (Nat.lt_of_lt_of_le hx (Nat.pow_le_pow_right (by omega) hj : 2 ^ 32 ≤ 2 ^ j))
    by_cases hni : n + i < 32
    · have h2 : ¬ (n + i ≥ 32) := by omega
      have h3 : ¬ (i ≥ 32 - n) := by omega
      simp [h2, h3]
    · have h2 : n + i ≥ 32 := by omega
      have h3 : i ≥ 32 - n := by omega
      have h4 : n + i - 32 = i - (32 - n) := by omega
      simp [h2, h3, h4, hbig (n + i) (by omega)]
  · simp [hi]

theorem xmod (a b : Nat) : (a ^^^ b) % 4294967296 = (a % 4294967296) ^^^ (b % 4294967296) := Nat.xor_mod_two_pow (n := 32)
theorem shr_lt (x n : Nat) (hx : x < 4294967296) : x >>> n % 4294967296 = x >>> n := Nat.mod_eq_of_lt (by rw [Nat.shiftRight_eq_div_pow]; exact Nat.lt_of_le_of_lt (Nat.div_le_self _ _) hx)

theorem sg0_eq (x : Nat) (hx : x < 4294967296) : ((x * 4294967297) >>> 7 ^^^ (x * 4294967297) >>> 18 ^^^ x >>> 3) % 4294967296 = sg0 x := by
  rw [xmod, xmod, rotr_eq 7 x hx (by omega), rotr_eq 18 x hx (by omega), shr_lt x 3 hx]; rfl
theorem sg1_eq (x : Nat) (hx : x < 4294967296) : ((x * 4294967297) >>> 17 ^^^ (x * 4294967297) >>> 19 ^^^ x >>> 10) % 4294967296 = sg1 x := by
  rw [xmod, xmod, rotr_eq 17 x hx (by omega), rotr_eq 19 x hx (by omega), shr_lt x 10 hx]; rfl
theorem bs0_eq (x : Nat) (hx : x < 4294967296) : ((x * 4294967297) >>> 2 ^^^ (x * 4294967297) >>> 13 ^^^ (x * 4294967297) >>> 22) % 4294967296 = bs0 x := by
  rw [xmod, xmod, rotr_eq 2 x hx (by omega), rotr_eq 13 x hx (by omega), rotr_eq 22 x hx (by omega)]; rfl
theorem bs1_eq (x : Nat) (hx : x < 4294967296) : ((x * 4294967297) >>> 6 ^^^ (x * 4294967297) >>> 11 ^^^ (x * 4294967297) >>> 25) % 4294967296 = bs1 x := by
  rw [xmod, xmod, rotr_eq 6 x hx (by omega), rotr_eq 11 x hx (by omega), rotr_eq 25 x hx (by omega)]; rfl

theorem word_lt (b : List UInt8) (i : Nat) : word b i < 4294967296 := by
  unfold word byt
  have h0 := (b.getD (4 * i) 0).toNat_lt
  have h1 := (b.getD (4 * i + 1) 0).toNat_lt
  have h2 := (b.getD (4 * i + 2) 0).toNat_lt
  have h3 := (b.getD (4 * i + 3) 0).toNat_lt
  omega
theorem wnext_lt (b : List UInt8) (l : List Nat) : wnext b l < 4294967296 := by
  unfold wnext; split
  · exact word_lt _ _
  · exact Nat.mod_lt _ (by omega)
theorem wl_getD (b : List UInt8) (n : Nat) : ∀ i, i < n → (wl b n).getD i 0 = wnext b (wl b i) := by
  induction n with
  | zero => intro i h; omega
  | succ n ih =>
    intro i h
    simp only [wl]
    by_cases hi : i < n
    · rw [← ih i hi]; simp [List.getD_eq_getElem?_getD, List.getElem?_append, wl_length, hi]
    · obtain rfl : i = n := by omega
      simp [List.getD_eq_getElem?_getD, wl_length]
/-- the i-th word of a block's row -/
def ww (b : List UInt8) (i : Nat) : Nat := wnext b (wl b i)
theorem ww_lt (b : List UInt8) (i : Nat) : ww b i < 4294967296 := wnext_lt _ _
theorem ww_low (b : List UInt8) (i : Nat) (h : i < 16) : ww b i = word b i := by simp [ww, wnext, wl_length, h]
theorem ww_high (b : List UInt8) (i : Nat) : ww b (i + 16) = (ww b i + sg0 (ww b (i + 1)) + ww b (i + 9) + sg1 (ww b (i + 14))) % 4294967296 := by
  have e (j : Nat) (h : j < i + 16) : (wl b (i + 16)).getD j 0 = ww b j := wl_getD b _ j h
  rw [ww, wnext, wl_length, if_neg (by omega), show i + 16 - 16 = i from by omega, show i + 16 - 15 = i + 1 from by omega, show i + 16 - 7 = i + 9 from by omega, show i + 16 - 2 = i + 14 from by omega,
    e i (by omega), e (i + 1) (by omega), e (i + 9) (by omega), e (i + 14) (by omega)]

theorem wnext_high (b : List UInt8) (n : Nat) (h : 16 ≤ n) :
    (wnext b (wl b (n - 16)) + sg0 (wnext b (wl b (n - 15))) + wnext b (wl b (n - 7)) + sg1 (wnext b (wl b (n - 2)))) % 4294967296 = wnext b (wl b n) := by
  obtain ⟨m, rfl⟩ : ∃ m, n = m + 16 := ⟨n - 16, by omega⟩
  rw [show m + 16 - 16 = m from by omega, show m + 16 - 15 = m + 1 from by omega, show m + 16 - 7 = m + 9 from by omega, show m + 16 - 2 = m + 14 from by omega]
  exact (ww_high b m).symm

def St.lt (s : St) : Prop := s.a < 4294967296 ∧ s.b < 4294967296 ∧ s.c < 4294967296 ∧ s.d < 4294967296 ∧ s.e < 4294967296 ∧ s.f < 4294967296 ∧ s.g < 4294967296 ∧ s.h < 4294967296
theorem step_lt (k w : Nat) (v : St) (h : v.lt) : (step k w v).lt := by
  obtain ⟨h1, h2, h3, h4, h5, h6, h7, h8⟩ := h
  exact ⟨Nat.mod_lt _ (by omega), h1, h2, h3, Nat.mod_lt _ (by omega), h5, h6, h7⟩
theorem rnds_lt (b : List UInt8) (s : St) (h : s.lt) (n : Nat) : (rnds b s n).lt := by
  induction n with
  | zero => exact h
  | succ n ih => exact step_lt _ _ _ ih
theorem plus_lt (s v : St) : (s.plus v).lt := ⟨Nat.mod_lt _ (by omega), Nat.mod_lt _ (by omega), Nat.mod_lt _ (by omega), Nat.mod_lt _ (by omega), Nat.mod_lt _ (by omega), Nat.mod_lt _ (by omega), Nat.mod_lt _ (by omega), Nat.mod_lt _ (by omega)⟩
theorem init_lt : St.init.lt := by unfold St.lt St.init; decide

theorem go_eq {α : Type} (b : List UInt8) (k : Nat → Nat → Nat → Nat → Nat → Nat → Nat → Nat → α) (l : List Nat) : ∀ (n : Nat) (v : St), v.lt → n + l.length = 64 → KK.drop n = l →
    ∃ v', v' = (List.range' n l.length).foldl (fun v i => step (KK.getD i 0) (ww b i) v) v ∧
    go l (ww b n) (ww b (n+1)) (ww b (n+2)) (ww b (n+3)) (ww b (n+4)) (ww b (n+5)) (ww b (n+6)) (ww b (n+7)) (ww b (n+8)) (ww b (n+9)) (ww b (n+10)) (ww b (n+11)) (ww b (n+12)) (ww b (n+13)) (ww b (n+14)) (ww b (n+15))
      v.a v.b v.c v.d v.e v.f v.g v.h k = k v'.a v'.b v'.c v'.d v'.e v'.f v'.g v'.h := by
  induction l with
  | nil => intro n v _ _ _; exact ⟨v, rfl, rfl⟩
  | cons q l ih =>
    intro n v hv hn hk
    have hq : KK.getD n 0 = q := by
      have := congrArg (fun m => m.getD 0 0) hk
      simpa [List.getD_eq_getElem?_getD, List.getElem?_drop] using this
    have hk' : KK.drop (n + 1) = l := by rw [← List.tail_drop, hk]; rfl
    obtain ⟨v', e1, e2⟩ := ih (n + 1) (step q (ww b n) v) (step_lt _ _ _ hv) (by simp at hn; omega) hk'
    refine ⟨v', ?_, ?_⟩
    · rw [e1, List.length_cons, List.range'_succ, List.foldl_cons, hq]
    · rw [← e2]
      simp only [go, frc_eq]
      rw [sg0_eq _ (ww_lt _ _), sg1_eq _ (ww_lt _ _), bs1_eq _ hv.2.2.2.2.1, bs0_eq _ hv.1, ← ww_high]
      have a1 : (v.h + bs1 v.e + (v.g ^^^ v.e &&& (v.f ^^^ v.g)) + q + ww b n) = t1 v q (ww b n) := rfl
      rw [a1]
      rfl

theorem rnds_eq (b : List UInt8) (s : St) (n : Nat) : n ≤ 64 → rnds b s n = (List.range' 0 n).foldl (fun v i => step (KK.getD i 0) (ww b i) v) s := by
  induction n with
  | zero => intro _; rfl
  | succ n ih =>
    intro h
    rw [rnds, ih (by omega), wl_getD b 64 n (by omega), List.range'_1_concat, List.foldl_append, Nat.zero_add]
    rfl

theorem plus_set (s v : St) (n : Nat) (h : n < 8) : ((s.plus v).list.take n ++ s.list.drop n).set n ((s.list.getD n 0 + v.list.getD n 0) % 4294967296) = (s.plus v).list.take (n + 1) ++ s.list.drop (n + 1) := by
  match n, h with
  | 0, _ => rfl
  | 1, _ => rfl
  | 2, _ => rfl
  | 3, _ => rfl
  | 4, _ => rfl
  | 5, _ => rfl
  | 6, _ => rfl
  | 7, _ => rfl
theorem plus_get (s v : St) (n : Nat) (h : n < 8) : ((s.plus v).list.take n ++ s.list.drop n).getD n 0 = s.list.getD n 0 := by
  match n, h with
  | 0, _ => rfl
  | 1, _ => rfl
  | 2, _ => rfl
  | 3, _ => rfl
  | 4, _ => rfl
  | 5, _ => rfl
  | 6, _ => rfl
  | 7, _ => rfl
/-- one block, at words -/
def comp1 {α : Type} (w0 w1 w2 w3 w4 w5 w6 w7 w8 w9 w10 w11 w12 w13 w14 w15 a b c d e f g h : Nat) (k : Nat → Nat → Nat → Nat → Nat → Nat → Nat → Nat → α) : α :=
  frc w0 fun w0 => frc w1 fun w1 => frc w2 fun w2 => frc w3 fun w3 => frc w4 fun w4 => frc w5 fun w5 => frc w6 fun w6 => frc w7 fun w7 =>
  frc w8 fun w8 => frc w9 fun w9 => frc w10 fun w10 => frc w11 fun w11 => frc w12 fun w12 => frc w13 fun w13 => frc w14 fun w14 => frc w15 fun w15 =>
  go KK w0 w1 w2 w3 w4 w5 w6 w7 w8 w9 w10 w11 w12 w13 w14 w15 a b c d e f g h fun a' b' c' d' e' f' g' h' =>
  frc ((a + a') % 4294967296) fun a => frc ((b + b') % 4294967296) fun b => frc ((c + c') % 4294967296) fun c => frc ((d + d') % 4294967296) fun d =>
  frc ((e + e') % 4294967296) fun e => frc ((f + f') % 4294967296) fun f => frc ((g + g') % 4294967296) fun g => frc ((h + h') % 4294967296) fun h => k a b c d e f g h

theorem comp1_eq {α : Type} (b : List UInt8) (s : St) (hs : s.lt) (k : Nat → Nat → Nat → Nat → Nat → Nat → Nat → Nat → α) :
    comp1 (word b 0) (word b 1) (word b 2) (word b 3) (word b 4) (word b 5) (word b 6) (word b 7) (word b 8) (word b 9) (word b 10) (word b 11) (word b 12) (word b 13) (word b 14) (word b 15)
      s.a s.b s.c s.d s.e s.f s.g s.h k = k (comp s b).a (comp s b).b (comp s b).c (comp s b).d (comp s b).e (comp s b).f (comp s b).g (comp s b).h := by
  simp only [comp1, frc_eq]
  obtain ⟨v', e1, e2⟩ := go_eq b (fun a' b' c' d' e' f' g' h' => k ((s.a + a') % 4294967296) ((s.b + b') % 4294967296) ((s.c + c') % 4294967296) ((s.d + d') % 4294967296)
    ((s.e + e') % 4294967296) ((s.f + f') % 4294967296) ((s.g + g') % 4294967296) ((s.h + h') % 4294967296)) KK 0 s hs rfl rfl
  have e3 : v' = rnds b s 64 := by rw [e1, rnds_eq b s 64 (Nat.le_refl _)]; rfl
  subst e3
  simp only [Nat.zero_add] at e2
  rw [ww_low b 0 (by omega), ww_low b 1 (by omega), ww_low b 2 (by omega), ww_low b 3 (by omega), ww_low b 4 (by omega), ww_low b 5 (by omega), ww_low b 6 (by omega), ww_low b 7 (by omega),
    ww_low b 8 (by omega), ww_low b 9 (by omega), ww_low b 10 (by omega), ww_low b 11 (by omega), ww_low b 12 (by omega), ww_low b 13 (by omega), ww_low b 14 (by omega), ww_low b 15 (by omega)] at e2
  exact e2

/-- the words of a row of bytes -/
def toW : List Nat → List Nat
  | a :: b :: c :: d :: l => (((a * 256 + b) * 256 + c) * 256 + d) :: toW l
  | _ => []
/-- whole blocks of words, one behind the other -/
def comps {α : Type} : List Nat → Nat → Nat → Nat → Nat → Nat → Nat → Nat → Nat → (Nat → Nat → Nat → Nat → Nat → Nat → Nat → Nat → α) → α
  | w0 :: w1 :: w2 :: w3 :: w4 :: w5 :: w6 :: w7 :: w8 :: w9 :: w10 :: w11 :: w12 :: w13 :: w14 :: w15 :: l, a, b, c, d, e, f, g, h, k =>
    comp1 w0 w1 w2 w3 w4 w5 w6 w7 w8 w9 w10 w11 w12 w13 w14 w15 a b c d e f g h fun a b c d e f g h => comps l a b c d e f g h k
  | _, a, b, c, d, e, f, g, h, k => k a b c d e f g h

theorem getD_drop (m : List UInt8) (n i : Nat) : (m.drop n).getD i 0 = m.getD (n + i) 0 := by simp [List.getD_eq_getElem?_getD, List.getElem?_drop]
theorem word_drop (m : List UInt8) (j : Nat) : word (m.drop 64) j = word m (16 + j) := by
  unfold word byt
  simp only [getD_drop]
  rw [show 64 + 4 * j = 4 * (16 + j) from by omega, show 64 + (4 * j + 1) = 4 * (16 + j) + 1 from by omega, show 64 + (4 * j + 2) = 4 * (16 + j) + 2 from by omega, show 64 + (4 * j + 3) = 4 * (16 + j) + 3 from by omega]
theorem word_blk0 (m : List UInt8) (j : Nat) (h : j < 16) : word (blk m 0) j = word m j := by
  have e (i : Nat) (hi : i < 64) : byt (blk m 0) i = byt m i := by simp [byt, blk, List.getD_eq_getElem?_getD, hi]
  unfold word
  rw [e _ (by omega), e _ (by omega), e _ (by omega), e _ (by omega)]
theorem blk_succ (m : List UInt8) (i : Nat) : blk m (i + 1) = blk (m.drop 64) i := by
  simp only [blk, List.drop_drop]; rw [show 64 * (i + 1) = 64 + 64 * i from by omega]

theorem list16 (l : List Nat) (h : 16 ≤ l.length) : l = l.getD 0 0 :: l.getD 1 0 :: l.getD 2 0 :: l.getD 3 0 :: l.getD 4 0 :: l.getD 5 0 :: l.getD 6 0 :: l.getD 7 0 ::
    l.getD 8 0 :: l.getD 9 0 :: l.getD 10 0 :: l.getD 11 0 :: l.getD 12 0 :: l.getD 13 0 :: l.getD 14 0 :: l.getD 15 0 :: l.drop 16 := by
  rcases l with _ | ⟨x0, _ | ⟨x1, _ | ⟨x2, _ | ⟨x3, _ | ⟨x4, _ | ⟨x5, _ | ⟨x6, _ | ⟨x7, _ | ⟨x8, _ | ⟨x9, _ | ⟨x10, _ | ⟨x11, _ | ⟨x12, _ | ⟨x13, _ | ⟨x14, _ | ⟨x15, l⟩⟩⟩⟩⟩⟩⟩⟩⟩⟩⟩⟩⟩⟩⟩⟩
  case cons.cons.cons.cons.cons.cons.cons.cons.cons.cons.cons.cons.cons.cons.cons.cons => rfl
  all_goals (simp at h)

theorem comps_eq {α : Type} (k : Nat → Nat → Nat → Nat → Nat → Nat → Nat → Nat → α) (n : Nat) : ∀ (L : List Nat) (m : List UInt8) (s : St), s.lt → L.length = 16 * n →
    (∀ j, j < 16 * n → L.getD j 0 = word m j) →
    ∃ s', s' = ((List.range n).map (blk m)).foldl comp s ∧ comps L s.a s.b s.c s.d s.e s.f s.g s.h k = k s'.a s'.b s'.c s'.d s'.e s'.f s'.g s'.h := by
  induction n with
  | zero =>
    intro L m s _ hL _
    obtain rfl : L = [] := List.eq_nil_of_length_eq_zero (by omega)
    exact ⟨s, rfl, rfl⟩
  | succ n ih =>
    intro L m s hs hL hw
    obtain ⟨s', e1, e2⟩ := ih (L.drop 16) (m.drop 64) (comp s (blk m 0)) (plus_lt _ _) (by simp; omega) (fun j hj => by
      rw [word_drop, ← hw _ (by omega)]; simp [List.getD_eq_getElem?_getD, List.getElem?_drop])
    refine ⟨s', ?_, ?_⟩
    · rw [e1, List.range_succ_eq_map, List.map_cons, List.foldl_cons, List.map_map]
      congr 2
      funext i; exact (blk_succ m i).symm
    · rw [← e2]
      conv => lhs; rw [list16 L (by omega)]
      have c := comp1_eq (blk m 0) s hs (fun a b c d e f g h => comps (L.drop 16) a b c d e f g h k)
      rw [word_blk0 m 0 (by omega), word_blk0 m 1 (by omega), word_blk0 m 2 (by omega), word_blk0 m 3 (by omega), word_blk0 m 4 (by omega), word_blk0 m 5 (by omega), word_blk0 m 6 (by omega), word_blk0 m 7 (by omega),
        word_blk0 m 8 (by omega), word_blk0 m 9 (by omega), word_blk0 m 10 (by omega), word_blk0 m 11 (by omega), word_blk0 m 12 (by omega), word_blk0 m 13 (by omega), word_blk0 m 14 (by omega), word_blk0 m 15 (by omega),
        ← hw 0 (by omega), ← hw 1 (by omega), ← hw 2 (by omega), ← hw 3 (by omega), ← hw 4 (by omega), ← hw 5 (by omega), ← hw 6 (by omega), ← hw 7 (by omega),
        ← hw 8 (by omega), ← hw 9 (by omega), ← hw 10 (by omega), ← hw 11 (by omega), ← hw 12 (by omega), ← hw 13 (by omega), ← hw 14 (by omega), ← hw 15 (by omega)] at c
      simp only [comps]
      exact c

theorem toW_eq (n : Nat) : ∀ m : List UInt8, m.length = 4 * n → (toW (m.map UInt8.toNat)).length = n ∧ ∀ j, j < n → (toW (m.map UInt8.toNat)).getD j 0 = word m j := by
  induction n with
  | zero => intro m hm; obtain rfl : m = [] := List.eq_nil_of_length_eq_zero (by omega); exact ⟨rfl, fun j h => by omega⟩
  | succ n ih =>
    intro m hm
    match m, hm with
    | a :: b :: c :: d :: m, hm =>
      obtain ⟨h1, h2⟩ := ih m (by simp at hm; omega)
      refine ⟨by simp [toW, h1], fun j hj => ?_⟩
      cases j with
      | zero => simp [toW, word, byt]
      | succ j =>
        simp only [List.map_cons, toW, List.getD_cons_succ]
        rw [h2 j (by omega)]
        unfold word byt
        rw [show 4 * (j + 1) = 4 * j + 1 + 1 + 1 + 1 from by omega]
        simp only [List.getD_cons_succ]
    | [], hm | [_], hm | [_, _], hm | [_, _, _], hm => simp at hm <;> omega

/-- the bytes of eight words -/
def outB (a b c d e f g h : Nat) : List Nat :=
  [a / 16777216 % 256, a / 65536 % 256, a / 256 % 256, a % 256, b / 16777216 % 256, b / 65536 % 256, b / 256 % 256, b % 256,
   c / 16777216 % 256, c / 65536 % 256, c / 256 % 256, c % 256, d / 16777216 % 256, d / 65536 % 256, d / 256 % 256, d % 256,
   e / 16777216 % 256, e / 65536 % 256, e / 256 % 256, e % 256, f / 16777216 % 256, f / 65536 % 256, f / 256 % 256, f % 256,
   g / 16777216 % 256, g / 65536 % 256, g / 256 % 256, g % 256, h / 16777216 % 256, h / 65536 % 256, h / 256 % 256, h % 256]
/-- the sum of n bytes, handed on -/
def evSha {α : Type} (n : Nat) (m : List Nat) (k : List Nat → α) : α :=
  comps (toW (m ++ (tail n).map UInt8.toNat)) 0x6a09e667 0xbb67ae85 0x3c6ef372 0xa54ff53a 0x510e527f 0x9b05688c 0x1f83d9ab 0x5be0cd19 fun a b c d e f g h => k (outB a b c d e f g h)

theorem outB_eq (s : St) : outB s.a s.b s.c s.d s.e s.f s.g s.h = s.bytes.map UInt8.toNat := by
  simp [outB, St.bytes, St.list, w4, be32, b8]

theorem evSha_eq {α : Type} (m : List UInt8) (n : Nat) (hn : m.length = n) (M : List Nat) (hM : m.map UInt8.toNat = M) (k : List Nat → α) : evSha n M k = k ((sha m).map UInt8.toNat) := by
  subst hn; subst hM
  unfold evSha
  rw [← List.map_append]
  have hl := pad_mod m
  obtain ⟨q, hq⟩ : ∃ q, (pad m).length = 64 * q := ⟨(pad m).length / 64, by omega⟩
  obtain ⟨h1, h2⟩ := toW_eq (16 * q) (pad m) (by omega)
  obtain ⟨s', e1, e2⟩ := comps_eq (fun a b c d e f g h => k (outB a b c d e f g h)) q _ (pad m) St.init init_lt h1 h2
  have e3 : sha m = s'.bytes := by rw [e1, sha, blks, hq, Nat.mul_div_cancel_left _ (by omega)]
  rw [e3, ← outB_eq]
  exact e2

end Scv
