/- A slice of slices of bytes that came in. -/
import Derived.Test.YteicjpjniaohhaaLive
import Derived.Test.YteicjpjniaohhaaSlices
import Derived.Deep.Matrix
import Derived.ProofKit
import Derived.ChangeOld
namespace Scv
open Go Go.RowKit
theorem wf_u8 {n : Int} (h : (Lit.int .u8 n).wf = true) : 0 ≤ n ∧ n ≤ 255 := by
  simp [Lit.wf, IntKind.min, IntKind.max, IntKind.signed, IntKind.bits] at h
  omega
theorem grown_below {w W : World} (h : w.grownBy W none) : Below w.heap.size w W := ⟨h.os, h.tape, h.output, h.size, fun k hk => h.block k hk (by simp)⟩
theorem lists_of_rows {w : World} {a : Addr} {len cap : Nat} {A : Nat → Option Addr} {L C : Nat → Nat} {Z : Nat → List Int} (hl : len ≤ cap)
    (h : ∀ r, r < cap → w.cell? (a.add r) = some (.slice (A r) (L r) (C r)) ∧ L r ≤ C r ∧ C r ≤ maxLen ∧ (Z r).length = C r ∧ (∀ n ∈ Z r, (Lit.int .u8 n).wf = true) ∧ (A r = none → C r = 0) ∧
      ∀ a', A r = some a' → 0 ≤ a'.block ∧ ∀ c, c < C r → w.cell? (a'.add c) = some (.int .u8 ((Z r).getD c 0))) :
    ∃ (vs : List Value) (ls : List (List UInt8)), ListsAt w (.slice (some a) len cap) vs ls := by
  let bytes : Nat → List UInt8 := fun r => ((Z r).take (L r)).map fun n => UInt8.ofNat n.toNat
  have hbl : ∀ r, r < cap → (bytes r).length = L r := fun r hr => by
    obtain ⟨_, h1, _, h2, _⟩ := h r hr
    simp only [bytes, List.length_map, List.length_take]; omega
  refine ⟨(List.range len).map fun r => .slice (A r) (L r) (C r), (List.range len).map bytes, some a, cap, by simp, ?_, ?_⟩
  · by_cases h0 : len = 0
    · left; simp [h0]
    · right
      obtain ⟨b, off, spot⟩ := a
      have hc := (h 0 (by omega)).1
      have hspot : spot = none := by simpa [Addr.add] using World.cell?_spot hc
      subst hspot
      refine ⟨b, off, rfl, fun i hi => ?_⟩
      simp only [List.length_map, List.length_range] at hi
      have hci := (h i (by omega)).1
      rw [add_at] at hci
      rw [hci]
      simp [List.getD_eq_getElem?_getD, hi]
  · intro i hi
    simp only [List.length_map, List.length_range] at hi
    obtain ⟨h1, h2, h3, h4, h5, h6, h7⟩ := h i (by omega)
    have e1 : ((List.range len).map fun r => Value.slice (A r) (L r) (C r)).getD i undef = .slice (A i) (L i) (C i) := by simp [List.getD_eq_getElem?_getD, hi]
    have e2 : ((List.range len).map bytes).getD i [] = bytes i := by simp [List.getD_eq_getElem?_getD, hi]
    rw [e1, e2]
    refine ⟨A i, C i, by rw [hbl i (by omega)], ?_⟩
    cases hA : A i with
    | none => left; apply List.eq_nil_of_length_eq_zero; rw [hbl i (by omega)]; have := h6 hA; omega
    | some a' =>
      by_cases hL : L i = 0
      · left; apply List.eq_nil_of_length_eq_zero; rw [hbl i (by omega)]; exact hL
      · right
        obtain ⟨b, off, spot⟩ := a'
        obtain ⟨_, hc⟩ := h7 _ hA
        have hc0 := hc 0 (by omega)
        have hspot : spot = none := by simpa [Addr.add] using World.cell?_spot hc0
        subst hspot
        refine ⟨b, off, rfl, fun k hk => ?_⟩
        rw [hbl i (by omega)] at hk
        have hck := hc k (by omega)
        rw [add_at] at hck
        rw [hck]
        have hk2 : k < (Z i).length := by omega
        have hb : byt (bytes i) k = ((Z i).getD k 0).toNat % 256 := by
          simp only [byt, bytes, List.getD_eq_getElem?_getD, List.getElem?_map, List.getElem?_take, if_pos hk, List.getElem?_eq_getElem hk2, Option.map_some, Option.getD_some]
          rw [UInt8.toNat_ofNat']
        have hwf := h5 ((Z i).getD k 0) (by rw [List.getD_eq_getElem?_getD, List.getElem?_eq_getElem hk2]; exact List.getElem_mem hk2)
        have hr := wf_u8 hwf
        rw [hb]
        have : (((Z i).getD k 0).toNat % 256 : Nat) = ((Z i).getD k 0).toNat := by omega
        rw [this, Int.toNat_of_nonneg hr.1]
end Scv
