/- The reference's text of a sum, and its sum of parts for a purpose. -/
import Derived.Test.YteicjpjniaohhaaFor
set_option linter.unusedVariables false
set_option linter.unusedSimpArgs false
namespace Scv
open Go Go.RowKit
theorem str_append (a b : List UInt8) : (⟨a.toArray⟩ : ByteArray) ++ ⟨b.toArray⟩ = ⟨(a ++ b).toArray⟩ := by
  apply ByteArray.ext
  simp
end Scv
namespace Go.Proofs.Yteicjpjniaohhaa
open Go.RowKit Go.Shelf Scv
set_option maxRecDepth 100000 in
set_option maxHeartbeats 1000000 in
theorem text_calls (l : List UInt8) (hl : l.length = 32) (w : World) :
    Calls Try.prog 39 #[.agg (u8s l)] w fun e w' => e = .returned (.string ⟨l.toArray⟩) ∧ w.grownBy w' none := by
  go_enter Try.func39, Try.ntmps39
  go_wp2_with (with_reducible refine law_box (.agg (u8s l)) rfl ?_)
  intro W1 hb1 hg1 hz1
  obtain ⟨g1, hg1'⟩ : ∃ g, g = w.heap.size := ⟨_, rfl⟩
  rw [← hg1'] at hb1
  rw [← hg1']
  replace hb1 : Blk W1 g1 (u8s l) 29 := hb1
  have HL := Lib.hid hl
  clear hg1' hz1 hl
  go_wp2_with fail
  go_loopw [3, 4] (fun s3 s4 wr => ∃ k : Nat, k ≤ 32 ∧ s4 = .int .i64 k ∧ s3 = .string ⟨(l.take k).toArray⟩ ∧ Blk wr g1 (u8s l) 29 ∧ w.grownBy wr none) (fun _ i _ => 32 - (intOf i).toNat)
  case atStart => exact ⟨0, by omega, rfl, rfl, hb1, hg1⟩
  case round =>
    obtain ⟨k, hk, rfl, rfl, hB, hG⟩ := hrel
    clear hb1 hg1
    by_cases hk32 : k < 32
    · have hki : (k : Int) < 32 := by omega
      have ck := hB.byte k (by have := HL.out; omega)
      obtain ⟨x, hx⟩ : ∃ x, x = l.getD k 0 := ⟨_, rfl⟩
      have hbx : byt l k = x.toNat := by rw [hx]; rfl
      rw [hbx] at ck
      have HX := Lib.hid hx
      have HB := Lib.hid hB
      have HG := Lib.hid hG
      clear hx hbx hB hG
      go_wp2_with ((with_reducible refine law_bslice 5 [vb x] Try.ubytes Try.zu8 ?_ ?_ ?_ ?_ ?_ ?_); omega; rfl; omega; (intro v hv; rw [List.mem_singleton.1 hv]; rfl); rfl)
      intro W2 hb2 hg2 hz2
      have hbb : BytesAt W2 (.slice (some ⟨wr.heap.size, 0, none⟩) 1 1) [x] := Blk.bytes (l := [x]) (t := 5) hb2 1
      have HW := Lib.hid (And.intro (HB.out.kept hg2 (by simp)) (grown_trans HG.out hg2))
      clear hb2 hg2 hz2 ck HB HG
      go_wp2_with ((with_reducible refine law_bstring (.slice (some ⟨wr.heap.size, 0, none⟩) 1 1) [x] 5 ?_ hbb Try.ubytes Try.uu8 Try.ustr ?_); rfl)
      go_roundw
      case rel =>
        refine ⟨k + 1, by omega, by go_num, ?_, HW.out.1, HW.out.2⟩
        refine congrArg Value.string ((str_append _ [x]).trans (congrArg (fun l : List UInt8 => (⟨l.toArray⟩ : ByteArray)) ?_))
        have hk' : k < l.length := by rw [HL.out]; exact hk32
        rw [List.take_succ_eq_append_getElem hk', HX.out, show l.getD k 0 = l[k] by simp [List.getD_eq_getElem?_getD, List.getElem?_eq_getElem hk']]
      case measure => simp [intOf]; omega
    · obtain rfl : k = 32 := by omega
      go_wp2_with fail
      go_ret
      exact ⟨by rw [List.take_of_length_le (by rw [HL.out]; omega)]; rfl, hG⟩
end Go.Proofs.Yteicjpjniaohhaa
