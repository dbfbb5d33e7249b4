/- The reference's disk, the other functions: New, Append, Sync, Break, Crash. -/
import Derived.Test.YteicjpjniaohhaaRDisk
set_option linter.unusedVariables false
set_option linter.unusedSimpArgs false
namespace Scv
open Go Go.RowKit
theorem results_row1 {P : Program} {fn : Func} {p : Tmp} {ty : TypeId} (h : fn.results = #[.cell p ty]) (tmps : Array Value) (w : World) (g : Nat) (t : TypeId) (cs : Array Value) (fr : Nat × Nat) (d : TypeDesc)
    (hp : tmps.getD p undef = .pointer (some ⟨g, 0, none⟩)) (hg : w.heap[g]? = some (.cells cs t fr))
    (hu : P.underlying ty = some d) (hd0 : d.isRow = true) (hi : (P.info? ty).map (·.size) = some cs.size) : (results fn tmps).run P w = .ok (.agg cs) w := by
  cases d with
  | struct fs => exact results_cell_row h tmps w g t cs fr _ hp hg hu rfl hi
  | array n e => exact results_cell_row h tmps w g t cs fr _ hp hg hu rfl hi
  | _ => simp [TypeDesc.isRow] at hd0
section
variable {P : Program} {ops : Array Oper} {Q : Exit → Act → World → Prop} {a : Act} {w : World} {rest : List Oper} {dst : Option Tmp} {ty0 : TypeId} {pos : String} {after : Array Edge}
/-- the beginning of a text -/
theorem law_sprefix {t : TypeId} {x z : Operand} (l : List UInt8) (m : Nat) (J : Int) (hx : a.eval x = vs l) (hz : a.eval z = .int .i64 J) (hJ : J = (m : Int)) (hj : m ≤ l.length) (h : P.underlying t = some .string)
    (k : wpList P ops Q rest (a.put dst (vs (l.take m))) w) :
    wpList P ops Q ({ dst, op := .slice t x none (some z) none, type := ty0, pos, after, guard := none } :: rest) a w :=
  wpList_val rfl (by
    have hr := run_sslice_to (P := P) w t l m h hj
    rw [← hJ] at hr
    unfold execOp
    simp only [hx, hz, Option.map_some, Option.map_none, Sem.run_bind, hr, Result.andThen_ok]; rfl) k
end
end Scv
namespace Go.Proofs.Yteicjpjniaohhaa
open Go.RowKit Go.Shelf Scv
set_option maxRecDepth 100000 in
set_option maxHeartbeats 1000000 in
theorem dbreak_calls (d : Disk) (n : Int) (w : World) (hn : n ≤ 9223372036854775807) :
    Calls Try.prog 25 #[dval d, .int .i64 n] w fun e w' => e = .returned (dval (d.brk n)) ∧ w.grownBy w' none := by
  obtain ⟨td, hu, htd⟩ := Try.udslab
  go_enter Try.func25, Try.ntmps25
  go_wp2_with (first | (with_reducible refine law_box (.agg (dcells d)) rfl ?_) | (with_reducible refine law_alloc _ Try.zdslab ?_))
  intro W1 hb1 hg1 hz1
  go_wp2_with (first | (with_reducible refine law_box (.agg (dcells d)) rfl ?_) | (with_reducible refine law_alloc _ Try.zdslab ?_))
  intro W2 hb2 hg2 hz2
  obtain ⟨g1, hg1'⟩ : ∃ g, g = w.heap.size := ⟨_, rfl⟩
  obtain ⟨g2, hg2'⟩ : ∃ g, g = W1.heap.size := ⟨_, rfl⟩
  rw [← hg1'] at hb1
  rw [← hg2'] at hb2
  rw [← hg1', ← hg2']
  replace hb1 : Blk W2 g1 (dcells d) 47 := Blk.kept (cs := dcells d) hb1 hg2 (by simp)
  replace hb2 : Blk W2 g2 (dcells ⟨0, [], 0, 0⟩) 47 := hb2
  have HG2 := Lib.hid (grown_trans hg1 hg2)
  have HG := Lib.hid (show g1 ≠ g2 ∧ w.heap.size ≤ g1 ∧ w.heap.size ≤ g2 by omega)
  clear hg1 hg2 hg1' hg2' hz1 hz2
  by_cases h0 : n < 0
  · have t1 : n < 0 := h0
    have hbr : d.brk n = { d with steps := -1 } := by unfold Disk.brk; rw [show max n (-1) = -1 by omega]
    have HB := Lib.hid hbr
    clear hbr
    go_wp2_with ((with_reducible refine law_store1 g1 2 (.int .i64 n) _ _ ?_ ?_ hb1 ?_ ?_ Try.sint ?_); rfl; rfl; exact (by decide : 2 < 4); rfl)
    intro W3 hb3 hg3 hz3
    have hb3 : Blk W3 g1 (dcells { d with steps := n }) 47 := hb3
    have hb23 := hb2.kept hg3 (by have := HG.out; simp; omega)
    have HG3 := Lib.hid (grown_new HG2.out hg3 (by rintro _ ⟨⟩; exact HG.out.2.1))
    clear hb1 hb2 hg3 hz3 HG2
    go_wp2_with ((with_reducible refine law_store1 g1 2 (.int .i64 (-1)) _ _ ?_ ?_ hb3 ?_ ?_ Try.sint ?_); rfl; rfl; exact (by decide : 2 < 4); rfl)
    intro W4 hb4 hg4 hz4
    have hb4 : Blk W4 g1 (dcells { d with steps := -1 }) 47 := hb4
    have hb24 := hb23.kept hg4 (by have := HG.out; simp; omega)
    have HG4 := Lib.hid (grown_new HG3.out hg4 (by rintro _ ⟨⟩; exact HG.out.2.1))
    clear hb3 hb23 hg4 hz4 HG3
    go_wp2_with (first | ((with_reducible refine law_loadw g1 _ _ _ ?_ hb4 hu htd ?_ ?_); rfl; exact Try.sdslab) |
      ((with_reducible refine law_storew g2 (dcells { d with steps := -1 }) _ _ ?_ ?_ hb24 ?_ ?_ ?_ ?_); rfl; rfl; rfl; exact dcells_one _; exact Try.sdslab))
    intro W5 hb5 hg5 hz5
    go_wp2_with fail
    refine bodyPost_ret (results_row1 rfl _ _ g2 47 _ _ _ rfl hb5 hu htd Try.sdslab) rfl ?_
    exact ⟨by rw [HB.out], grown_new HG4.out hg5 (by rintro _ ⟨⟩; exact HG.out.2.2)⟩
  · have t1 : ¬ n < 0 := h0
    have hbr : d.brk n = { d with steps := n } := by unfold Disk.brk; rw [show max n (-1) = n by omega]
    have HB := Lib.hid hbr
    clear hbr
    go_wp2_with ((with_reducible refine law_store1 g1 2 (.int .i64 n) _ _ ?_ ?_ hb1 ?_ ?_ Try.sint ?_); rfl; rfl; exact (by decide : 2 < 4); rfl)
    intro W3 hb3 hg3 hz3
    have hb3 : Blk W3 g1 (dcells { d with steps := n }) 47 := hb3
    have hb23 := hb2.kept hg3 (by have := HG.out; simp; omega)
    have HG3 := Lib.hid (grown_new HG2.out hg3 (by rintro _ ⟨⟩; exact HG.out.2.1))
    clear hb1 hb2 hg3 hz3 HG2
    go_wp2_with (first | ((with_reducible refine law_loadw g1 _ _ _ ?_ hb3 hu htd ?_ ?_); rfl; exact Try.sdslab) |
      ((with_reducible refine law_storew g2 (dcells { d with steps := n }) _ _ ?_ ?_ hb23 ?_ ?_ ?_ ?_); rfl; rfl; rfl; exact dcells_one _; exact Try.sdslab))
    intro W5 hb5 hg5 hz5
    go_wp2_with fail
    refine bodyPost_ret (results_row1 rfl _ _ g2 47 _ _ _ rfl hb5 hu htd Try.sdslab) rfl ?_
    exact ⟨by rw [HB.out], grown_new HG3.out hg5 (by rintro _ ⟨⟩; exact HG.out.2.2)⟩
set_option maxRecDepth 100000 in
set_option maxHeartbeats 1000000 in
theorem dnew_calls (room : Nat) (w : World) (hr : room ≤ 4194304) :
    Calls Try.prog 21 #[.int .i64 (room : Int)] w fun e w' => e = .returned (.tuple #[dval (Disk.new room), .int .i64 0]) ∧ w.grownBy w' none := by
  obtain ⟨td, hu, htd⟩ := Try.udslab
  have t1 : ¬ (room : Int) < 0 := by omega
  have t2 : ¬ (4194304 : Int) < room := by omega
  go_enter Try.func21, Try.ntmps21
  go_wp2_with (with_reducible refine law_alloc _ Try.zdslab ?_)
  intro W2 hb2 hg2 hz2
  obtain ⟨g2, hg2'⟩ : ∃ g, g = w.heap.size := ⟨_, rfl⟩
  rw [← hg2'] at hb2
  rw [← hg2']
  replace hb2 : Blk W2 g2 (dcells ⟨0, [], 0, 0⟩) 47 := hb2
  have HG2 := Lib.hid hg2'
  clear hg2'
  go_wp2_with (first | ((with_reducible refine law_build [(0, .int .i64 (room : Int)), (2, .int .i64 (-1))] (dcells (Disk.new room)) ?_ ?_ ?_); rfl; kernel_rfl) |
    ((with_reducible refine law_storew g2 (dcells (Disk.new room)) _ _ ?_ ?_ hb2 ?_ ?_ ?_ ?_); rfl; rfl; rfl; exact dcells_one _; exact Try.sdslab))
  intro W5 hb5 hg5 hz5
  go_wp2_with fail
  refine bodyPost_ret (results_row2 rfl _ _ g2 47 _ _ _ rfl hb5 hu htd Try.sdslab _ rfl) rfl ?_
  exact ⟨rfl, grown_new hg2 hg5 (by rintro _ ⟨⟩; have := HG2.out; omega)⟩
set_option maxRecDepth 100000 in
set_option maxHeartbeats 1000000 in
theorem dsync_calls (d : Disk) (w : World) (hd : d.ok) :
    Calls Try.prog 44 #[dval d] w fun e w' => e = .returned (.tuple #[dval d.sync.1, .int .i64 d.sync.2]) ∧ w.grownBy w' none := by
  obtain ⟨td, hu, htd⟩ := Try.udslab
  have H1 := Lib.hid (And.intro hd.low hd.high)
  go_enter Try.func44, Try.ntmps44
  go_wp2_with (first | (with_reducible refine law_box (.agg (dcells d)) rfl ?_) | (with_reducible refine law_alloc _ Try.zdslab ?_))
  intro W1 hb1 hg1 hz1
  go_wp2_with (first | (with_reducible refine law_box (.agg (dcells d)) rfl ?_) | (with_reducible refine law_alloc _ Try.zdslab ?_))
  intro W2 hb2 hg2 hz2
  obtain ⟨g1, hg1'⟩ : ∃ g, g = w.heap.size := ⟨_, rfl⟩
  obtain ⟨g2, hg2'⟩ : ∃ g, g = W1.heap.size := ⟨_, rfl⟩
  rw [← hg1'] at hb1
  rw [← hg2'] at hb2
  rw [← hg1', ← hg2']
  replace hb1 : Blk W2 g1 (dcells d) 47 := Blk.kept (cs := dcells d) hb1 hg2 (by simp)
  replace hb2 : Blk W2 g2 (dcells ⟨0, [], 0, 0⟩) 47 := hb2
  have HG2 := Lib.hid (grown_trans hg1 hg2)
  have HG := Lib.hid (show g1 ≠ g2 ∧ w.heap.size ≤ g1 ∧ w.heap.size ≤ g2 by omega)
  clear hg1 hg2 hg1' hg2' hz1 hz2
  go_wp2_with ((with_reducible refine law_loadw g1 (dcells d) _ _ ?_ hb1 hu htd ?_ ?_); rfl; exact Try.sdslab)
  refine (dstep_calls d W2 H1.out.1 H1.out.2).mono ?_
  rintro _ W3 ⟨rfl, hg3⟩
  have hb13 := hb1.kept hg3 (by simp)
  have hb23 := hb2.kept hg3 (by simp)
  have HG3 := Lib.hid (grown_trans HG2.out hg3)
  clear hb1 hb2 hg3 HG2
  obtain ⟨d1, hd1⟩ : ∃ x, x = (dstepB d).1 := ⟨_, rfl⟩
  obtain ⟨ok, hok⟩ : ∃ x, x = (dstepB d).2 := ⟨_, rfl⟩
  rw [← hd1, ← hok]
  have HD1 := Lib.hid (And.intro hd1 hok)
  clear hd1 hok
  go_wp2_with (with_reducible refine law_alloc _ Try.zdslab ?_)
  intro W4 hb4 hg4 hz4
  obtain ⟨g4, hg4'⟩ : ∃ g, g = W3.heap.size := ⟨_, rfl⟩
  rw [← hg4'] at hb4
  rw [← hg4']
  replace hb4 : Blk W4 g4 (dcells ⟨0, [], 0, 0⟩) 47 := hb4
  go_wp2_with ((with_reducible refine law_storew g4 (dcells d1) _ _ ?_ ?_ hb4 ?_ ?_ ?_ ?_); rfl; rfl; rfl; exact dcells_one d1; exact Try.sdslab)
  intro W5 hb5 hg5 hz5
  have hn4 : g1 < g4 ∧ g2 < g4 ∧ w.heap.size ≤ g4 := by
    have h1 := hb13.lt
    have h2 := hb23.lt
    have h3 := HG3.out.size
    omega
  have hb15 := (hb13.kept hg4 (by simp)).kept hg5 (by simp; omega)
  have hb25 := (hb23.kept hg4 (by simp)).kept hg5 (by simp; omega)
  have HN4 := Lib.hid hn4
  have HG5 := Lib.hid (grown_new (grown_trans HG3.out hg4) hg5 (by rintro _ ⟨⟩; exact hn4.2.2))
  clear hg4 hg5 hz4 hz5 hg4' hb13 hb23 hb4 hn4 HG3
  by_cases h0 : d.steps = 0
  · have hsb : dstepB d = (d, false) := if_pos h0
    obtain rfl : ok = false := by rw [HD1.out.2, hsb]
    have H0 := Lib.hid h0
    clear hsb h0
    go_wp2_with (first | ((with_reducible refine law_loadw g1 (dcells d) _ _ ?_ hb15 hu htd ?_ ?_); rfl; exact Try.sdslab) |
      ((with_reducible refine law_storew g2 (dcells d) _ _ ?_ ?_ hb25 ?_ ?_ ?_ ?_); rfl; rfl; rfl; exact dcells_one d; exact Try.sdslab))
    intro W6 hb6 hg6 hz6
    go_wp2_with fail
    refine bodyPost_ret (results_row2 rfl _ _ g2 47 _ _ _ rfl hb6 hu htd Try.sdslab _ rfl) rfl ?_
    exact ⟨by unfold Disk.sync; rw [if_pos H0.out]; rfl, grown_new HG5.out hg6 (by rintro _ ⟨⟩; exact HG.out.2.2)⟩
  · have hsb : dstepB d = (d.step, true) := if_neg h0
    obtain rfl : ok = true := by rw [HD1.out.2, hsb]
    obtain rfl : d1 = d.step := by rw [HD1.out.1, hsb]
    have hsy : d.sync = ({ d.step with sure := d.bytes.length }, 0) := by unfold Disk.sync; rw [if_neg h0]
    have HS := Lib.hid hsy
    clear hsb h0 hsy
    obtain ⟨c0, c1, c2, c3⟩ := dblk_cells hb5
    have hc3 : d.step.bytes = d.bytes := rfl
    rw [hc3] at c3
    clear hc3 c0 c1 c2
    go_wp2_with ((with_reducible refine law_store1 g4 1 (.int .i64 (d.bytes.length : Int)) _ _ ?_ ?_ hb5 ?_ ?_ Try.sint ?_); rfl; rfl; exact (by decide : 1 < 4); rfl)
    intro W6 hb6 hg6 hz6
    have hb6 : Blk W6 g4 (dcells { d.step with sure := d.bytes.length }) 47 := hb6
    have hb26 := hb25.kept hg6 (by have := HN4.out; simp; omega)
    have HG6 := Lib.hid (grown_new HG5.out hg6 (by rintro _ ⟨⟩; exact HN4.out.2.2))
    clear hb5 hb25 c3 hg6 hz6 HG5
    go_wp2_with (first | ((with_reducible refine law_loadw g4 _ _ _ ?_ hb6 hu htd ?_ ?_); rfl; exact Try.sdslab) |
      ((with_reducible refine law_storew g2 (dcells { d.step with sure := d.bytes.length }) _ _ ?_ ?_ hb26 ?_ ?_ ?_ ?_); rfl; rfl; rfl; exact dcells_one _; exact Try.sdslab))
    intro W8 hb8 hg8 hz8
    go_wp2_with fail
    refine bodyPost_ret (results_row2 rfl _ _ g2 47 _ _ _ rfl hb8 hu htd Try.sdslab _ rfl) rfl ?_
    exact ⟨by rw [HS.out]; rfl, grown_new HG6.out hg8 (by rintro _ ⟨⟩; exact HG.out.2.2)⟩
set_option maxRecDepth 100000 in
set_option maxHeartbeats 1000000 in
theorem dappend_calls (d : Disk) (b : List UInt8) (w : World) (hd : d.ok) (hb : b.length < 1099511627776) :
    Calls Try.prog 43 #[dval d, vs b] w fun e w' => e = .returned (.tuple #[dval (d.append b).1, .int .i64 (d.append b).2]) ∧ w.grownBy w' none := by
  obtain ⟨td, hu, htd⟩ := Try.udslab
  have H1 := Lib.hid (And.intro hd.low hd.high)
  have hN : d.bytes.length ≤ 4194304 := Nat.le_trans hd.fits hd.room
  have hr := hd.room
  have hf := hd.fits
  go_enter Try.func43, Try.ntmps43
  go_wp2_with (first | (with_reducible refine law_box (.agg (dcells d)) rfl ?_) | (with_reducible refine law_alloc _ Try.zdslab ?_))
  intro W1 hb1 hg1 hz1
  go_wp2_with (first | (with_reducible refine law_box (.agg (dcells d)) rfl ?_) | (with_reducible refine law_alloc _ Try.zdslab ?_))
  intro W2 hb2 hg2 hz2
  obtain ⟨g1, hg1'⟩ : ∃ g, g = w.heap.size := ⟨_, rfl⟩
  obtain ⟨g2, hg2'⟩ : ∃ g, g = W1.heap.size := ⟨_, rfl⟩
  rw [← hg1'] at hb1
  rw [← hg2'] at hb2
  rw [← hg1', ← hg2']
  replace hb1 : Blk W2 g1 (dcells d) 47 := Blk.kept (cs := dcells d) hb1 hg2 (by simp)
  replace hb2 : Blk W2 g2 (dcells ⟨0, [], 0, 0⟩) 47 := hb2
  have HG2 := Lib.hid (grown_trans hg1 hg2)
  have HG := Lib.hid (show g1 ≠ g2 ∧ w.heap.size ≤ g1 ∧ w.heap.size ≤ g2 by omega)
  clear hg1 hg2 hg1' hg2' hz1 hz2
  obtain ⟨c0, c1, c2, c3⟩ := dblk_cells hb1
  by_cases hfull : d.room < d.bytes.length + b.length
  · have t1 : (d.room : Int) - d.bytes.length < b.length := by omega
    have hap : d.append b = (d, 3) := if_pos hfull
    have HA := Lib.hid hap
    clear hap hfull
    go_wp2_with (first | ((with_reducible refine law_loadw g1 (dcells d) _ _ ?_ hb1 hu htd ?_ ?_); rfl; exact Try.sdslab) |
      ((with_reducible refine law_storew g2 (dcells d) _ _ ?_ ?_ hb2 ?_ ?_ ?_ ?_); rfl; rfl; rfl; exact dcells_one d; exact Try.sdslab))
    intro W6 hb6 hg6 hz6
    go_wp2_with fail
    refine bodyPost_ret (results_row2 rfl _ _ g2 47 _ _ _ rfl hb6 hu htd Try.sdslab _ rfl) rfl ?_
    exact ⟨by rw [HA.out]; rfl, grown_new HG2.out hg6 (by rintro _ ⟨⟩; exact HG.out.2.2)⟩
  have t1 : ¬ (d.room : Int) - d.bytes.length < b.length := by omega
  go_wp2_with ((with_reducible refine law_loadw g1 (dcells d) _ _ ?_ hb1 hu htd ?_ ?_); rfl; exact Try.sdslab)
  refine (dstep_calls d W2 H1.out.1 H1.out.2).mono ?_
  rintro _ W3 ⟨rfl, hg3⟩
  have hb13 := hb1.kept hg3 (by simp)
  have hb23 := hb2.kept hg3 (by simp)
  have HG3 := Lib.hid (grown_trans HG2.out hg3)
  clear hb1 hb2 hg3 HG2 c0 c1 c2 c3
  obtain ⟨d1, hd1⟩ : ∃ x, x = (dstepB d).1 := ⟨_, rfl⟩
  obtain ⟨ok, hok⟩ : ∃ x, x = (dstepB d).2 := ⟨_, rfl⟩
  rw [← hd1, ← hok]
  have HD1 := Lib.hid (And.intro hd1 hok)
  clear hd1 hok
  go_wp2_with (with_reducible refine law_alloc _ Try.zdslab ?_)
  intro W4 hb4 hg4 hz4
  obtain ⟨g4, hg4'⟩ : ∃ g, g = W3.heap.size := ⟨_, rfl⟩
  rw [← hg4'] at hb4
  rw [← hg4']
  replace hb4 : Blk W4 g4 (dcells ⟨0, [], 0, 0⟩) 47 := hb4
  go_wp2_with ((with_reducible refine law_storew g4 (dcells d1) _ _ ?_ ?_ hb4 ?_ ?_ ?_ ?_); rfl; rfl; rfl; exact dcells_one d1; exact Try.sdslab)
  intro W5 hb5 hg5 hz5
  have hn4 : g1 < g4 ∧ g2 < g4 ∧ w.heap.size ≤ g4 := by
    have h1 := hb13.lt
    have h2 := hb23.lt
    have h3 := HG3.out.size
    omega
  have hb15 := (hb13.kept hg4 (by simp)).kept hg5 (by simp; omega)
  have hb25 := (hb23.kept hg4 (by simp)).kept hg5 (by simp; omega)
  have HN4 := Lib.hid hn4
  have HG5 := Lib.hid (grown_new (grown_trans HG3.out hg4) hg5 (by rintro _ ⟨⟩; exact hn4.2.2))
  clear hg4 hg5 hz4 hz5 hg4' hb13 hb23 hb4 hn4 HG3
  by_cases h0 : d.steps = 0
  · have hsb : dstepB d = (d, false) := if_pos h0
    obtain rfl : ok = false := by rw [HD1.out.2, hsb]
    have hap : d.append b = (d, 90) := by unfold Disk.append; rw [if_neg hfull, if_pos h0]
    have HA := Lib.hid hap
    clear hsb h0 hap
    go_wp2_with (first | ((with_reducible refine law_loadw g1 (dcells d) _ _ ?_ hb15 hu htd ?_ ?_); rfl; exact Try.sdslab) |
      ((with_reducible refine law_storew g2 (dcells d) _ _ ?_ ?_ hb25 ?_ ?_ ?_ ?_); rfl; rfl; rfl; exact dcells_one d; exact Try.sdslab))
    intro W6 hb6 hg6 hz6
    go_wp2_with fail
    refine bodyPost_ret (results_row2 rfl _ _ g2 47 _ _ _ rfl hb6 hu htd Try.sdslab _ rfl) rfl ?_
    exact ⟨by rw [HA.out]; rfl, grown_new HG5.out hg6 (by rintro _ ⟨⟩; exact HG.out.2.2)⟩
  · have hsb : dstepB d = (d.step, true) := if_neg h0
    obtain rfl : ok = true := by rw [HD1.out.2, hsb]
    obtain rfl : d1 = d.step := by rw [HD1.out.1, hsb]
    have hap : d.append b = ({ d.step with bytes := d.bytes ++ b }, 0) := by unfold Disk.append; rw [if_neg hfull, if_neg h0]
    have HA := Lib.hid hap
    clear hsb h0 hap
    obtain ⟨c0, c1, c2, c3⟩ := dblk_cells hb5
    have hc3 : d.step.bytes = d.bytes := rfl
    rw [hc3] at c3
    clear hc3 c0 c1 c2
    go_wp2_with ((with_reducible refine law_store1 g4 3 (vs (d.bytes ++ b)) _ _ ?_ ?_ hb5 ?_ ?_ Try.sstr ?_); rfl; exact vs_append _ _; exact (by decide : 3 < 4); rfl)
    intro W6 hb6 hg6 hz6
    have hb6 : Blk W6 g4 (dcells { d.step with bytes := d.bytes ++ b }) 47 := hb6
    have hb26 := hb25.kept hg6 (by have := HN4.out; simp; omega)
    have HG6 := Lib.hid (grown_new HG5.out hg6 (by rintro _ ⟨⟩; exact HN4.out.2.2))
    clear hb5 hb25 c3 hg6 hz6 HG5
    go_wp2_with (first | ((with_reducible refine law_loadw g4 _ _ _ ?_ hb6 hu htd ?_ ?_); rfl; exact Try.sdslab) |
      ((with_reducible refine law_storew g2 (dcells { d.step with bytes := d.bytes ++ b }) _ _ ?_ ?_ hb26 ?_ ?_ ?_ ?_); rfl; rfl; rfl; exact dcells_one _; exact Try.sdslab))
    intro W8 hb8 hg8 hz8
    go_wp2_with fail
    refine bodyPost_ret (results_row2 rfl _ _ g2 47 _ _ _ rfl hb8 hu htd Try.sdslab _ rfl) rfl ?_
    exact ⟨by rw [HA.out]; rfl, grown_new HG6.out hg8 (by rintro _ ⟨⟩; exact HG.out.2.2)⟩
set_option maxRecDepth 100000 in
set_option maxHeartbeats 1000000 in
theorem dcrash_calls (d : Disk) (n : Int) (w : World) (hd : d.ok) :
    Calls Try.prog 27 #[dval d, .int .i64 n] w fun e w' => e = .returned (dval (d.crash n)) ∧ w.grownBy w' none := by
  obtain ⟨td, hu, htd⟩ := Try.udslab
  have hN : d.bytes.length ≤ 4194304 := Nat.le_trans hd.fits hd.room
  have hs := hd.sure
  go_enter Try.func27, Try.ntmps27
  go_wp2_with (first | (with_reducible refine law_box (.agg (dcells d)) rfl ?_) | (with_reducible refine law_alloc _ Try.zdslab ?_))
  intro W1 hb1 hg1 hz1
  go_wp2_with (first | (with_reducible refine law_box (.agg (dcells d)) rfl ?_) | (with_reducible refine law_alloc _ Try.zdslab ?_))
  intro W2 hb2 hg2 hz2
  obtain ⟨g1, hg1'⟩ : ∃ g, g = w.heap.size := ⟨_, rfl⟩
  obtain ⟨g2, hg2'⟩ : ∃ g, g = W1.heap.size := ⟨_, rfl⟩
  rw [← hg1'] at hb1
  rw [← hg2'] at hb2
  rw [← hg1', ← hg2']
  replace hb1 : Blk W2 g1 (dcells d) 47 := Blk.kept (cs := dcells d) hb1 hg2 (by simp)
  replace hb2 : Blk W2 g2 (dcells ⟨0, [], 0, 0⟩) 47 := hb2
  have HG2 := Lib.hid (grown_trans hg1 hg2)
  have HG := Lib.hid (show g1 ≠ g2 ∧ w.heap.size ≤ g1 ∧ w.heap.size ≤ g2 by omega)
  clear hg1 hg2 hg1' hg2' hz1 hz2
  obtain ⟨c0, c1, c2, c3⟩ := dblk_cells hb1
  have hll : d.left n ≤ d.bytes.length := Disk.left_le hd n
  obtain ⟨L, hL⟩ : ∃ L, L = d.left n := ⟨_, rfl⟩
  rw [← hL] at hll
  have hcr : d.crash n = ⟨d.room, d.bytes.take L, L, -1⟩ := by rw [hL]; rfl
  have HC := Lib.hid hcr
  clear hcr
  by_cases h0 : n < 0
  · have hLs : L = d.sure := by rw [hL]; unfold Disk.left; omega
    have HL := Lib.hid hLs
    have t2 : ¬ (d.bytes.length : Int) - d.sure < 0 := by omega
    have t3 : (0 : Int) ≤ (d.bytes.length : Int) - d.sure := by omega
    clear hL hLs
    go_wp2_with (first | ((refine law_sprefix d.bytes L _ rfl rfl ?_ hll Try.ustr ?_); have := HL.out; omega) |
      ((with_reducible refine law_store1 g1 3 (vs (d.bytes.take L)) _ _ ?_ ?_ hb1 ?_ ?_ Try.sstr ?_); rfl; rfl; exact (by decide : 3 < 4); rfl))
    intro W3 hb3 hg3 hz3
    have hb3 : Blk W3 g1 (dcells { d with bytes := d.bytes.take L }) 47 := hb3
    have hb23 := hb2.kept hg3 (by have := HG.out; simp; omega)
    have HG3 := Lib.hid (grown_new HG2.out hg3 (by rintro _ ⟨⟩; exact HG.out.2.1))
    have c3' : W3.cell? ⟨g1, 3, none⟩ = some (vs (d.bytes.take L)) := (dblk_cells hb3).2.2.2
    have hlt : (d.bytes.take L).length = L := by rw [List.length_take]; omega
    obtain ⟨tx, htx⟩ : ∃ x, x = d.bytes.take L := ⟨_, rfl⟩
    rw [← htx] at hlt c3' hb3
    have HT := Lib.hid htx
    clear hb1 hb2 hg3 hz3 HG2 c0 c1 c2 c3 htx
    go_wp2_with ((with_reducible refine law_store1 g1 1 (.int .i64 (L : Int)) _ _ ?_ ?_ hb3 ?_ ?_ Try.sint ?_); rfl; rfl; exact (by decide : 1 < 4); rfl)
    intro W4 hb4 hg4 hz4
    have hb4 : Blk W4 g1 (dcells ⟨d.room, tx, L, d.steps⟩) 47 := hb4
    have hb24 := hb23.kept hg4 (by have := HG.out; simp; omega)
    have HG4 := Lib.hid (grown_new HG3.out hg4 (by rintro _ ⟨⟩; exact HG.out.2.1))
    clear hb3 hb23 hg4 hz4 HG3 c3'
    go_wp2_with ((with_reducible refine law_store1 g1 2 (.int .i64 (-1)) _ _ ?_ ?_ hb4 ?_ ?_ Try.sint ?_); rfl; rfl; exact (by decide : 2 < 4); rfl)
    intro W5 hb5 hg5 hz5
    have hb5 : Blk W5 g1 (dcells ⟨d.room, tx, L, -1⟩) 47 := hb5
    have hb25 := hb24.kept hg5 (by have := HG.out; simp; omega)
    have HG5 := Lib.hid (grown_new HG4.out hg5 (by rintro _ ⟨⟩; exact HG.out.2.1))
    clear hb4 hb24 hg5 hz5 HG4
    go_wp2_with (first | ((with_reducible refine law_loadw g1 _ _ _ ?_ hb5 hu htd ?_ ?_); rfl; exact Try.sdslab) |
      ((with_reducible refine law_storew g2 (dcells ⟨d.room, tx, L, -1⟩) _ _ ?_ ?_ hb25 ?_ ?_ ?_ ?_); rfl; rfl; rfl; exact dcells_one _; exact Try.sdslab))
    intro W6 hb6 hg6 hz6
    go_wp2_with fail
    refine bodyPost_ret (results_row1 rfl _ _ g2 47 _ _ _ rfl hb6 hu htd Try.sdslab) rfl ?_
    exact ⟨by rw [HC.out, HT.out], grown_new HG5.out hg6 (by rintro _ ⟨⟩; exact HG.out.2.2)⟩
  by_cases h1 : (d.bytes.length : Int) - d.sure < n
  · have hLs : L = d.bytes.length := by rw [hL]; unfold Disk.left; omega
    have HL := Lib.hid hLs
    clear hL hLs
    go_wp2_with (first | ((refine law_sprefix d.bytes L _ rfl rfl ?_ hll Try.ustr ?_); have := HL.out; omega) |
      ((with_reducible refine law_store1 g1 3 (vs (d.bytes.take L)) _ _ ?_ ?_ hb1 ?_ ?_ Try.sstr ?_); rfl; rfl; exact (by decide : 3 < 4); rfl))
    intro W3 hb3 hg3 hz3
    have hb3 : Blk W3 g1 (dcells { d with bytes := d.bytes.take L }) 47 := hb3
    have hb23 := hb2.kept hg3 (by have := HG.out; simp; omega)
    have HG3 := Lib.hid (grown_new HG2.out hg3 (by rintro _ ⟨⟩; exact HG.out.2.1))
    have c3' : W3.cell? ⟨g1, 3, none⟩ = some (vs (d.bytes.take L)) := (dblk_cells hb3).2.2.2
    have hlt : (d.bytes.take L).length = L := by rw [List.length_take]; omega
    obtain ⟨tx, htx⟩ : ∃ x, x = d.bytes.take L := ⟨_, rfl⟩
    rw [← htx] at hlt c3' hb3
    have HT := Lib.hid htx
    clear hb1 hb2 hg3 hz3 HG2 c0 c1 c2 c3 htx
    go_wp2_with ((with_reducible refine law_store1 g1 1 (.int .i64 (L : Int)) _ _ ?_ ?_ hb3 ?_ ?_ Try.sint ?_); rfl; rfl; exact (by decide : 1 < 4); rfl)
    intro W4 hb4 hg4 hz4
    have hb4 : Blk W4 g1 (dcells ⟨d.room, tx, L, d.steps⟩) 47 := hb4
    have hb24 := hb23.kept hg4 (by have := HG.out; simp; omega)
    have HG4 := Lib.hid (grown_new HG3.out hg4 (by rintro _ ⟨⟩; exact HG.out.2.1))
    clear hb3 hb23 hg4 hz4 HG3 c3'
    go_wp2_with ((with_reducible refine law_store1 g1 2 (.int .i64 (-1)) _ _ ?_ ?_ hb4 ?_ ?_ Try.sint ?_); rfl; rfl; exact (by decide : 2 < 4); rfl)
    intro W5 hb5 hg5 hz5
    have hb5 : Blk W5 g1 (dcells ⟨d.room, tx, L, -1⟩) 47 := hb5
    have hb25 := hb24.kept hg5 (by have := HG.out; simp; omega)
    have HG5 := Lib.hid (grown_new HG4.out hg5 (by rintro _ ⟨⟩; exact HG.out.2.1))
    clear hb4 hb24 hg5 hz5 HG4
    go_wp2_with (first | ((with_reducible refine law_loadw g1 _ _ _ ?_ hb5 hu htd ?_ ?_); rfl; exact Try.sdslab) |
      ((with_reducible refine law_storew g2 (dcells ⟨d.room, tx, L, -1⟩) _ _ ?_ ?_ hb25 ?_ ?_ ?_ ?_); rfl; rfl; rfl; exact dcells_one _; exact Try.sdslab))
    intro W6 hb6 hg6 hz6
    go_wp2_with fail
    refine bodyPost_ret (results_row1 rfl _ _ g2 47 _ _ _ rfl hb6 hu htd Try.sdslab) rfl ?_
    exact ⟨by rw [HC.out, HT.out], grown_new HG5.out hg6 (by rintro _ ⟨⟩; exact HG.out.2.2)⟩
  · have hLs : (L : Int) = d.sure + n := by rw [hL]; unfold Disk.left; omega
    have HL := Lib.hid hLs
    have h2 : 0 ≤ n := by omega
    have h3 : n ≤ (d.bytes.length : Int) - d.sure := by omega
    have h4 : (d.sure : Int) + n ≤ d.bytes.length := by omega
    clear hL hLs
    go_wp2_with (first | ((refine law_sprefix d.bytes L _ rfl rfl ?_ hll Try.ustr ?_); have := HL.out; omega) |
      ((with_reducible refine law_store1 g1 3 (vs (d.bytes.take L)) _ _ ?_ ?_ hb1 ?_ ?_ Try.sstr ?_); rfl; rfl; exact (by decide : 3 < 4); rfl))
    intro W3 hb3 hg3 hz3
    have hb3 : Blk W3 g1 (dcells { d with bytes := d.bytes.take L }) 47 := hb3
    have hb23 := hb2.kept hg3 (by have := HG.out; simp; omega)
    have HG3 := Lib.hid (grown_new HG2.out hg3 (by rintro _ ⟨⟩; exact HG.out.2.1))
    have c3' : W3.cell? ⟨g1, 3, none⟩ = some (vs (d.bytes.take L)) := (dblk_cells hb3).2.2.2
    have hlt : (d.bytes.take L).length = L := by rw [List.length_take]; omega
    obtain ⟨tx, htx⟩ : ∃ x, x = d.bytes.take L := ⟨_, rfl⟩
    rw [← htx] at hlt c3' hb3
    have HT := Lib.hid htx
    clear hb1 hb2 hg3 hz3 HG2 c0 c1 c2 c3 htx
    go_wp2_with ((with_reducible refine law_store1 g1 1 (.int .i64 (L : Int)) _ _ ?_ ?_ hb3 ?_ ?_ Try.sint ?_); rfl; rfl; exact (by decide : 1 < 4); rfl)
    intro W4 hb4 hg4 hz4
    have hb4 : Blk W4 g1 (dcells ⟨d.room, tx, L, d.steps⟩) 47 := hb4
    have hb24 := hb23.kept hg4 (by have := HG.out; simp; omega)
    have HG4 := Lib.hid (grown_new HG3.out hg4 (by rintro _ ⟨⟩; exact HG.out.2.1))
    clear hb3 hb23 hg4 hz4 HG3 c3'
    go_wp2_with ((with_reducible refine law_store1 g1 2 (.int .i64 (-1)) _ _ ?_ ?_ hb4 ?_ ?_ Try.sint ?_); rfl; rfl; exact (by decide : 2 < 4); rfl)
    intro W5 hb5 hg5 hz5
    have hb5 : Blk W5 g1 (dcells ⟨d.room, tx, L, -1⟩) 47 := hb5
    have hb25 := hb24.kept hg5 (by have := HG.out; simp; omega)
    have HG5 := Lib.hid (grown_new HG4.out hg5 (by rintro _ ⟨⟩; exact HG.out.2.1))
    clear hb4 hb24 hg5 hz5 HG4
    go_wp2_with (first | ((with_reducible refine law_loadw g1 _ _ _ ?_ hb5 hu htd ?_ ?_); rfl; exact Try.sdslab) |
      ((with_reducible refine law_storew g2 (dcells ⟨d.room, tx, L, -1⟩) _ _ ?_ ?_ hb25 ?_ ?_ ?_ ?_); rfl; rfl; rfl; exact dcells_one _; exact Try.sdslab))
    intro W6 hb6 hg6 hz6
    go_wp2_with fail
    refine bodyPost_ret (results_row1 rfl _ _ g2 47 _ _ _ rfl hb6 hu htd Try.sdslab) rfl ?_
    exact ⟨by rw [HC.out, HT.out], grown_new HG5.out hg6 (by rintro _ ⟨⟩; exact HG.out.2.2)⟩
end Go.Proofs.Yteicjpjniaohhaa
