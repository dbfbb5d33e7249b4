/- The reference's journal: the sum of a record and all ahead of it, the short sum of a length, a record as it lies there. -/
import Derived.Test.YteicjpjniaohhaaRFor
import Derived.Test.YteicjpjniaohhaaJPlain
set_option linter.unusedVariables false
set_option linter.unusedSimpArgs false
namespace Scv
open Go Go.RowKit
theorem StrsAt.two {w : World} {g : Nat} {a b : List UInt8} {t : TypeId} (hb : Blk w g #[vs a, vs b] t) : StrsAt w (.slice (some ⟨g, 0, none⟩) 2 2) [a, b] := by
  refine ⟨_, 2, rfl, .inr ⟨g, 0, rfl, fun i hi => ?_⟩⟩
  match i, hi with
  | 0, _ => rw [hb.cell]; rfl
  | 1, _ => rw [hb.cell]; rfl
end Scv
namespace Go.Proofs.Yteicjpjniaohhaa
open Go.RowKit Go.Shelf Scv
theorem Try.ustrs : Try.prog.underlying 50 = some (.slice 9) := by kernel_rfl
theorem Try.zstr : (Try.prog.info? 9).map (fun i => (i.size, i.zero.isSome)) = some (1, true) := by kernel_rfl
set_option maxRecDepth 100000 in
set_option maxHeartbeats 4000000 in
theorem rlink_calls (last data : List UInt8) (w : World) (hl : last.length = 32) (hd : data.length < 16777216) :
    Calls Try.prog 19 #[.agg (u8s last), vs data] w fun e w' => e = .returned (.agg (u8s (lnk last data))) ∧ w.grownBy w' none := by
  obtain ⟨own, hown⟩ : ∃ own, own = lnk last data := ⟨_, rfl⟩
  have hol : own.length = 32 := by rw [hown]; exact lnk_length _ _
  rw [← hown]
  have HO := Lib.hid (And.intro hown hol)
  have HL := Lib.hid hl
  clear hown hol hl
  go_enter Try.func19, Try.ntmps19
  go_wp2_with (first | (with_reducible refine law_box (.agg (u8s last)) rfl ?_) | (with_reducible refine law_alloc _ Try.zid ?_))
  intro W1 hb1 hg1 hz1
  go_wp2_with (first | (with_reducible refine law_box (.agg (u8s last)) rfl ?_) | (with_reducible refine law_alloc _ Try.zid ?_))
  intro W2 hb2 hg2 hz2
  obtain ⟨g1, hg1'⟩ : ∃ g, g = w.heap.size := ⟨_, rfl⟩
  obtain ⟨g2, hg2'⟩ : ∃ g, g = W1.heap.size := ⟨_, rfl⟩
  rw [← hg1'] at hb1
  rw [← hg2'] at hb2
  rw [← hg1', ← hg2']
  replace hb1 : Blk W2 g1 (u8s last) 29 := Blk.kept (cs := u8s last) hb1 hg2 (by simp)
  replace hb2 : Blk W2 g2 (u8s (List.replicate 32 0)) 29 := hb2
  have hG2 := grown_trans hg1 hg2
  have HG := Lib.hid (show g1 < g2 ∧ w.heap.size ≤ g2 by omega)
  clear hg1 hg2 hg1' hg2' hz1 hz2
  go_wp2_with ((with_reducible refine law_loadw g1 (u8s last) _ _ ?_ hb1 Try.uid ?_ ?_ ?_); rfl; rfl; (rw [Try.sid, u8s_size, HL.out]))
  refine (text_calls last HL.out W2).mono ?_
  rintro _ W3 ⟨rfl, hg3⟩
  have hb3 := hb2.kept hg3 (by simp)
  have hG3 := grown_trans hG2 hg3
  clear hb1 hb2 hg3 hG2
  go_wp2_with ((with_reducible refine law_bslice 9 [vs last, vs data] Try.ustrs Try.zstr ?_ ?_ ?_ ?_ ?_ ?_); omega; rfl; omega; (intro v hv; simp only [List.mem_cons, List.not_mem_nil, or_false] at hv; rcases hv with rfl | rfl <;> rfl); rfl)
  intro W4 hb4 hg4 hz4
  have hs4 := StrsAt.two hb4
  have hb34 := hb3.kept hg4 (by simp)
  have hG4 := grown_trans hG3 hg4
  clear hb3 hb4 hg4 hG3 hz4
  go_wp2_with fail
  refine (rfor_calls [114, 101, 99, 111, 114, 100] _ [last, data] W4 hs4 (by simp) (by simp) (by rw [sized2, HL.out]; omega)).mono ?_
  rintro _ W5 ⟨rfl, hg5⟩
  have hfs : forSum [114, 101, 99, 111, 114, 100] [last, data] = own := by rw [HO.out.1]; rfl
  rw [hfs]
  have hb5 := hb34.kept hg5 (by simp)
  have hG5 := grown_trans hG4 hg5
  clear hb34 hs4 hg5 hG4 hfs
  go_wp2_with ((with_reducible refine law_store g2 0 (own.map vb) _ _ ?_ ?_ hb5 ?_ ?_ ?_ ?_); rfl; rfl; (rw [u8s_size, List.length_map, HO.out.2, List.length_replicate]; omega); (intro v hv; obtain ⟨b, _, rfl⟩ := List.mem_map.1 hv; rfl); (rw [Try.sid, List.length_map, HO.out.2]))
  intro W6 hb6 hg6 hz6
  rw [lay_whole _ _ (by rw [u8s_size, List.length_map, HO.out.2, List.length_replicate])] at hb6
  replace hb6 : Blk W6 g2 (u8s own) 29 := hb6
  go_wp2_with fail
  refine bodyPost_ret (results_cell_row rfl _ _ g2 29 _ _ _ rfl hb6 Try.uid rfl (by rw [Try.sid, u8s_size, HO.out.2])) rfl ?_
  exact ⟨rfl, grown_new hG5 hg6 (by rintro _ ⟨⟩; exact HG.out.2)⟩
end Go.Proofs.Yteicjpjniaohhaa
