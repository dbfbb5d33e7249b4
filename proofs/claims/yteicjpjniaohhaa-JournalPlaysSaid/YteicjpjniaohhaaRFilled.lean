/- The reference's filled text. -/
import Derived.Test.YteicjpjniaohhaaRText
import Derived.Test.YteicjpjniaohhaaLive2
set_option linter.unusedVariables false
set_option linter.unusedSimpArgs false
namespace Scv
open Go Go.RowKit
def slen : Value → Nat
  | .slice _ n _ => n
  | _ => 0
section
variable {P : Program} {ops : Array Oper} {Q : Exit → Act → World → Prop} {a : Act} {w : World} {rest : List Oper} {dst : Option Tmp} {ty0 : TypeId} {pos : String} {after : Array Edge}
/-- make of elements of one cell: the whole block -/
theorem law_makeb {t : TypeId} {l c : Operand} (e : TypeId) (z : Value) (ht : P.underlying t = some (.slice e)) (hi : (P.info? e).map (fun i => (i.size, decide (i.bytes ≤ 128), i.zero)) = some (1, true, some z)) (hzs : z.cells = #[z]) (n : Nat) (kl kc : IntKind)
    (hl : a.eval l = .int kl (n : Int)) (hc : a.eval c = .int kc (n : Int)) (hn : n ≤ 1099511627776)
    (k : ∀ W, Blk W w.heap.size (List.replicate n z).toArray e → w.grownBy W none → wpList P ops Q rest (a.put dst (.slice (some ⟨w.heap.size, 0, none⟩) n n)) W) :
    wpList P ops Q ({ dst, op := .makeSlice t l c, type := ty0, pos, after, guard := none } :: rest) a w := by
  cases hq : P.info? e with
  | none => simp [hq] at hi
  | some i =>
    simp only [hq, Option.map_some, Option.some.injEq, Prod.mk.injEq, decide_eq_true_eq] at hi
    refine wpList_make_full w rfl l c t rfl w.heap.size e i z 1 ht hq hi.2.2 hi.1 kl kc n n n hl hc rfl rfl (Nat.le_trans (Nat.mul_le_mul hi.2.1 hn) (by omega)) (by unfold maxLen; omega) (Nat.le_refl _) (fun W hr hg => k W ?_ hg)
    obtain ⟨_, h | ⟨g, cap, cur, hv, hb, hh, h1, h2, h3, h4⟩⟩ := hr
    · exact absurd h.1 (by simp)
    · cases hv
      rw [hzs, Nat.mul_one, toList_madeCells_one] at h4
      have e1 : cur = (List.replicate n z).toArray := by
        apply Array.ext'
        rw [List.toList_toArray]
        rw [← h4]
        symm
        apply List.take_of_length_le
        simpa using Nat.le_of_eq (by simpa using h3)
      rw [← e1]
      exact hh
end
theorem Row.shapeN {w : World} {base : Nat} {e : TypeId} {v : Value} {xs : List Value} (h : Row w base e v xs) : ∃ ad cap, v = .slice ad xs.length cap := by
  rcases h with ⟨rfl, rfl⟩ | ⟨g, cap, cur, fr, rfl, _⟩
  · exact ⟨_, _, rfl⟩
  · exact ⟨_, _, rfl⟩
theorem row_bytes {w : World} {base : Nat} {e : TypeId} {v : Value} {l : List UInt8} (h : Row w base e v (l.map vb)) : BytesAt w v l := by
  obtain ⟨ad, c, hv, hc⟩ := h.src
  rcases h with ⟨rfl, h0⟩ | ⟨g, cap, cur, fr, rfl, h1, h2, h3, h4, h5, h6, h7⟩
  · have : l = [] := List.map_eq_nil_iff.1 h0
    subst this
    exact ⟨none, 0, rfl, .inl rfl⟩
  · refine ⟨some ⟨g, 0, none⟩, cap, by rw [List.length_map], .inr ⟨g, 0, rfl, fun i hi => ?_⟩⟩
    cases hv
    obtain ⟨p, hp, hcell⟩ := hc i (vb (l.getD i 0)) (by simp [List.getD_eq_getElem?_getD, List.getElem?_eq_getElem hi])
    cases hp
    rw [add_at] at hcell
    exact hcell
def eight (n i : Nat) : List UInt8 := List.replicate (8 - i) 0 ++ (be64 n).drop (8 - i)
theorem eight_length (n i : Nat) (h : i ≤ 8) : (eight n i).length = 8 := by simp only [eight, be64, List.length_append, List.length_replicate, List.length_drop, List.length_cons, List.length_nil]; omega
theorem eight_set (n i : Nat) (h : i < 8) : (eight n i).set (7 - i) (b8 (n / 256 ^ i)) = eight n (i + 1) := by
  match i, h with
  | 0, _ => simp [eight, be64, b8, List.set]
  | 1, _ => rfl
  | 2, _ => rfl
  | 3, _ => rfl
  | 4, _ => rfl
  | 5, _ => rfl
  | 6, _ => rfl
  | 7, _ => rfl
theorem eight_zero (n : Nat) : eight n 0 = List.replicate 8 0 := by simp [eight, be64]
theorem eight_end (n : Nat) : eight n 8 = be64 n := rfl
theorem b8_int (n : Nat) : ((b8 n).toNat : Int) = (n : Int) % 256 := by rw [b8_toNat]; omega
end Scv
namespace Go.Proofs.Yteicjpjniaohhaa
open Go.RowKit Go.Shelf Scv
set_option maxRecDepth 100000 in
set_option maxHeartbeats 1000000 in
theorem filled_calls (m : List UInt8) (hm : m.length < 268435456) (w : World) :
    Calls Try.prog 60 #[.string ⟨m.toArray⟩] w fun e w' => e = .returned (.string ⟨(pad m).toArray⟩) ∧ w.grownBy w' none := by
  obtain ⟨z, hz⟩ : ∃ z, z = (119 - m.length % 64) % 64 := ⟨_, rfl⟩
  have hzl : z < 64 := by rw [hz]; exact Nat.mod_lt _ (by omega)
  have hz56 : (m.length + 1 + z) % 64 = 56 := by omega
  have hzn : ∀ k, k < z → (m.length + 1 + k) % 64 ≠ 56 := by omega
  have HZ := Lib.hid (And.intro hz (And.intro hz56 hzn))
  clear hz hz56 hzn
  go_enter Try.func60, Try.ntmps60
  go_wp2_with ((with_reducible refine law_sbytes m 5 ?_ Try.ustr Try.ubytes Try.uu8 ?_ ?_); rfl; omega)
  intro v1 W1 hr1 hg1 ho1 hb1
  obtain ⟨ad1, cap1, rfl⟩ := hr1.shapeN
  have HR1 := Lib.hid (And.intro hr1 (And.intro hg1 ho1))
  clear hr1 hg1 ho1 hb1
  go_wp2_with ((with_reducible refine law_bslice 5 [vb 128] Try.ubytes Try.zu8 ?_ ?_ ?_ ?_ ?_ ?_); omega; rfl; omega; (intro v hv; rw [List.mem_singleton.1 hv]; rfl); rfl)
  intro W2 hb2 hg2 hz2
  have hbb : BytesAt W2 (.slice (some ⟨W1.heap.size, 0, none⟩) 1 1) [128] := Blk.bytes (l := [128]) (t := 5) hb2 1
  have hr2 := HR1.out.1.grown hg2 (.inl rfl)
  have hG2 := grown_trans HR1.out.2.1 hg2
  refine law_append w.heap.size 5 _ Try.ubytes Try.iu8 rfl _ _ _ ([128].map vb) rfl rfl hr2 hbb.src (by intro u hu; rw [List.mem_singleton.1 hu]; rfl) (by simp; omega) hG2.size ?_
  intro v3 W3 hr3 hg3 ho3
  have hG3 : w.grownBy W3 none := grown_new hG2 hg3 (by intro g hg; exact (hr2.lt g hg).1)
  have hr3 : Row W3 w.heap.size 5 v3 ((m ++ 128 :: List.replicate 0 0).map vb) := by simpa using hr3
  clear hr2 hG2 hbb hb2 hg2 hz2 hg3 ho3 HR1
  go_wp2_with fail
  go_loopw [3] (fun s3 wr => ∃ k : Nat, k ≤ z ∧ Row wr w.heap.size 5 s3 ((m ++ 128 :: List.replicate k 0).map vb) ∧ w.grownBy wr none) (fun v _ => m.length + 1 + z - slen v)
  case atStart => exact ⟨0, by omega, hr3, hG3⟩
  case round =>
    clear hr3 hG3
    obtain ⟨k, hk, hR, hG⟩ := hrel
    obtain ⟨ad, cap, rfl⟩ := hR.shapeN
    have hl : ((m ++ 128 :: List.replicate k 0).map vb).length = m.length + 1 + k := by simp; omega
    rw [hl] at hR
    rw [hl]
    have HR := Lib.hid (And.intro hR (And.intro hG hl))
    clear hR hG hl
    by_cases hkz : k < z
    · have hne := HZ.out.2.2 k hkz
      have t1 : (((m.length : Int) + 1 + (k : Int)) % 64 != 56) = true := by
        rw [bne_iff_ne]; omega
      go_wp2_with ((with_reducible refine law_bslice 5 [vb 0] Try.ubytes Try.zu8 ?_ ?_ ?_ ?_ ?_ ?_); omega; rfl; omega; (intro v hv; rw [List.mem_singleton.1 hv]; rfl); rfl)
      intro W2 hb2 hg2 hz2
      have hbb : BytesAt W2 (.slice (some ⟨wr.heap.size, 0, none⟩) 1 1) [0] := Blk.bytes (l := [0]) (t := 5) hb2 1
      have hr2 := HR.out.1.grown hg2 (.inl rfl)
      have hG2 := grown_trans HR.out.2.1 hg2
      refine law_append w.heap.size 5 _ Try.ubytes Try.iu8 rfl (.slice ad (m.length + 1 + k) cap) _ _ ([0].map vb) rfl rfl hr2 hbb.src (by intro u hu; rw [List.mem_singleton.1 hu]; rfl) (by simp; omega) hG2.size ?_
      intro v3 W3 hr3 hg3 ho3
      have hG3 : w.grownBy W3 none := grown_new hG2 hg3 (by intro g hg; exact (hr2.lt g hg).1)
      have hr3 : Row W3 w.heap.size 5 v3 ((m ++ 128 :: List.replicate (k + 1) 0).map vb) := by
        rw [List.replicate_succ']; simpa using hr3
      clear hr2 hG2 hbb hb2 hg2 hz2 hg3 ho3 HR
      go_wp2_with fail
      go_roundw
      case rel => exact ⟨k + 1, by omega, hr3, hG3⟩
      case measure =>
        obtain ⟨ad, cap, rfl⟩ := hr3.shapeN
        simp [slen]; omega
    · obtain rfl : k = z := by omega
      have h56 := HZ.out.2.1
      have t1 : (((m.length : Int) + 1 + (k : Int)) % 64 != 56) = false := by
        rw [bne_eq_false_iff_eq]; omega
      go_wp2_with (with_reducible refine law_makeb 5 (.int .u8 0) Try.ubytes Try.iu8 rfl 8 .i64 .i64 rfl rfl (by omega) ?_)
      intro W4 hb4 hg4
      obtain ⟨g, hg⟩ : ∃ g, g = wr.heap.size := ⟨_, rfl⟩
      rw [← hg] at hb4
      have hG4 : w.grownBy W4 none := grown_trans HR.out.2.1 hg4
      have hR4 := HR.out.1.grown hg4 (.inl rfl)
      have hgl : w.heap.size ≤ g := by rw [hg]; exact HR.out.2.1.size
      have hgn : ∀ b, (Value.slice ad (m.length + 1 + k) cap).ownBlock = some b → b ≠ g := by
        intro b hb; have := (HR.out.1.lt b hb).2; omega
      have hb4 : Blk W4 g (u8s (eight (8 * m.length) 0)) 5 := by rw [eight_zero]; exact hb4
      have HH := Lib.hid (And.intro hgl hgn)
      rw [← hg]
      clear hg hg4 hgl hgn HR
      go_wp2_with fail
      go_loopw [5, 6] (fun s5 s6 wr => ∃ i : Nat, i ≤ 8 ∧ s5 = .int .u64 ((8 * m.length / 256 ^ i : Nat) : Int) ∧ s6 = .int .i64 (7 - (i : Int)) ∧ Blk wr g (u8s (eight (8 * m.length) i)) 5 ∧
        Row wr w.heap.size 5 (.slice ad (m.length + 1 + k) cap) ((m ++ 128 :: List.replicate k 0).map vb) ∧ w.grownBy wr none) (fun _ s6 _ => (intOf s6 + 1).toNat)
      case atStart => exact ⟨0, by omega, by rw [Nat.pow_zero, Nat.div_one]; go_num, by rfl, hb4, hR4, hG4⟩
      case round =>
        clear hb4 hR4 hG4
        obtain ⟨i, hi, rfl, rfl, hB, hR, hG⟩ := hrel
        have hBR := Lib.hid (And.intro hB (And.intro hR hG))
        by_cases hi8 : i < 8
        · obtain ⟨x, hx⟩ : ∃ x, x = 8 * m.length / 256 ^ i := ⟨_, rfl⟩
          have hxl : x < 2147483648 := by rw [hx]; exact Nat.lt_of_le_of_lt (Nat.div_le_self _ _) (by omega)
          have hxn : 8 * m.length / 256 ^ (i + 1) = x / 256 := by rw [hx, Nat.div_div_eq_div_mul, Nat.pow_succ]
          rw [← hx]
          have HX := Lib.hid (And.intro hx hxn)
          clear hx hxn hB hR hG
          have t1 : (7 - (i : Int)).toNat = 7 - i := by omega
          have p1 : (0 : Int) ≤ 7 - i := by omega
          have p2 : (7 : Int) - i < 8 := by omega
          have hcl : 7 - i < (u8s (eight (8 * m.length) i)).size := by rw [u8s_size, eight_length _ _ (by omega)]; omega
          have hB := hBR.out.1
          go_wp2_with ((with_reducible refine law_store1 g (7 - i) (.int .u8 ((x : Int) % 256)) _ _ ?_ ?_ hB hcl ?_ Try.su8 ?_); rfl; rfl; rfl)
          intro W5 hb5 hg5 hz5
          have hb5 : Blk W5 g (u8s (eight (8 * m.length) (i + 1))) 5 := by
            rw [← eight_set _ _ hi8, ← HX.out.1, ← u8s_set, b8_int]; exact hb5
          have hG5 : w.grownBy W5 none := grown_new hBR.out.2.2 hg5 (by rintro _ ⟨⟩; exact HH.out.1)
          have hR5 := hBR.out.2.1.grown hg5 (.inr (by intro e; exact HH.out.2 _ e rfl))
          clear hcl hB hg5 hz5
          go_wp2_with fail
          go_roundw
          case rel => exact ⟨i + 1, by omega, by rw [HX.out.2]; go_num, by go_num, hb5, hR5, hG5⟩
          case measure => simp [intOf]; omega
        · obtain rfl : i = 8 := by omega
          clear hB hR hG
          have t1 : (7 : Int) - (8 : Nat) = -1 := by omega
          have hbb : BytesAt wr (.slice (some ⟨g, 0, none⟩) 8 8) (be64 (8 * m.length)) := Blk.bytes (l := be64 (8 * m.length)) (t := 5) hBR.out.1 8
          have hr2 := hBR.out.2.1
          have hG2 := hBR.out.2.2
          have hGs := hG2.size
          have hle : ((m ++ 128 :: List.replicate k 0).map vb).length + ((be64 (8 * m.length)).map vb).length ≤ 1099511627776 := by simp [be64]; omega
          have hone : ∀ u ∈ (be64 (8 * m.length)).map vb, u.oneCell' = true := by
            intro u hu; obtain ⟨b, _, rfl⟩ := List.mem_map.1 hu; rfl
          have hsrc := hbb.src
          go_wp2_with ((with_reducible refine law_append w.heap.size 5 _ Try.ubytes Try.iu8 ?_ (.slice ad (m.length + 1 + k) cap) (.slice (some ⟨g, 0, none⟩) 8 8) _ _ ?_ ?_ hr2 hsrc hone hle hGs ?_); rfl; rfl; rfl)
          intro v6 W6 hr6 hg6 ho6
          have hG6 : w.grownBy W6 none := grown_new hG2 hg6 (by intro g hg; exact (hr2.lt g hg).1)
          have hr6 : Row W6 w.heap.size 5 v6 ((pad m).map vb) := by
            have e : pad m = (m ++ 128 :: List.replicate k 0) ++ be64 (8 * m.length) := by unfold pad tail; rw [← HZ.out.1]; simp
            rw [e, List.map_append]; exact hr6
          have hb6 := row_bytes hr6
          clear hr2 hG2 hGs hle hone hsrc hbb hg6 ho6 hr6
          go_wp2_with ((with_reducible refine law_bstring v6 (pad m) 5 ?_ hb6 Try.ubytes Try.uu8 Try.ustr ?_); rfl)
          go_ret
          exact ⟨rfl, hG6⟩
end Go.Proofs.Yteicjpjniaohhaa
