/- The reference's disk: a value with a text; each of its functions is the plain disk's. -/
import Derived.Test.YteicjpjniaohhaaSlab
import Derived.Test.YteicjpjniaohhaaRFor
set_option linter.unusedVariables false
set_option linter.unusedSimpArgs false
namespace Scv
open Go Go.RowKit
theorem results_row2 {P : Program} {fn : Func} {p u : Tmp} {ty : TypeId} (h : fn.results = #[.cell p ty, .tmp u]) (tmps : Array Value) (w : World) (g : Nat) (t : TypeId) (cs : Array Value) (fr : Nat × Nat) (d : TypeDesc)
    (hp : tmps.getD p undef = .pointer (some ⟨g, 0, none⟩)) (hg : w.heap[g]? = some (.cells cs t fr))
    (hu : P.underlying ty = some d) (hd0 : d.isRow = true) (hi : (P.info? ty).map (·.size) = some cs.size) (v : Value) (hv : tmps.getD u undef = v) :
    (results fn tmps).run P w = .ok (.tuple #[.agg cs, v]) w := by
  have hl : (loadVar ty ⟨g, 0, none⟩).run P w = .ok (.agg cs) w := by
    cases d with
    | struct fs => exact run_loadVar_row w g t ty cs fr _ hg hu rfl hi
    | array n e => exact run_loadVar_row w g t ty cs fr _ hg hu rfl hi
    | _ => simp [TypeDesc.isRow] at hd0
  have hp' : tmps[p]?.getD undef = .pointer (some ⟨g, 0, none⟩) := by simpa using hp
  have hv' : tmps[u]?.getD undef = v := by simpa using hv
  simp [results, h, hp', hv', asAddr, hl]
section
variable {P : Program} {ops : Array Oper} {Q : Exit → Act → World → Prop} {a : Act} {w : World} {rest : List Oper} {dst : Option Tmp} {ty0 : TypeId} {pos : String} {after : Array Edge}
/-- a whole block is stored -/
theorem law_storew {ty : TypeId} {x y : Operand} (g : Nat) (cs cur : Array Value) (t : TypeId) (hx : a.eval x = .pointer (some ⟨g, 0, none⟩)) (hy : a.eval y = .agg cs) (hg : Blk w g cur t)
    (hsz : cs.size = cur.size) (h1 : ∀ v ∈ cs.toList, v.oneCell' = true) (hi : (P.info? ty).map (·.size) = some cs.size)
    (k : ∀ W, Blk W g cs t → w.grownBy W (some g) → W.heap.size = w.heap.size → wpList P ops Q rest (a.put dst undef) W) :
    wpList P ops Q ({ dst, op := .store ty x y, type := ty0, pos, after, guard := none } :: rest) a w :=
  law_store g 0 cs.toList cur t hx (by simpa using hy) hg (by simp; omega) h1 (by simpa using hi) (fun W hb hG hz => k W (by rw [lay_whole _ _ (by simpa using hsz)] at hb; simpa using hb) hG hz)
end
section
variable {P : Program} {ops : Array Oper} {a : Act}
theorem run_bstr {w : World} {src t e : TypeId} {v : Value} {l : List UInt8} (hb : BytesAt w v l) (hs : P.underlying src = some (.slice e)) (he : P.underlying e = some (.int .u8)) (hd : P.underlying t = some .string) :
    (convert src t v).run P w = .ok (vs l) w := by
  obtain ⟨ad, cap, rfl, rfl | ⟨b, o, rfl, hc⟩⟩ := hb
  · rw [List.length_nil, run_convert_bytes_string w src t e ad 0 cap hs he hd]
    cases ad <;> simp [Conv.bytesToString, loadCells]
    all_goals rfl
  · refine run_convert_bytes_back w src t e ⟨b, o, none⟩ cap l hs he hd (fun j hj => ?_)
    rw [add_at, hc j hj]
    simp [byt, List.getD_eq_getElem?_getD, List.getElem?_eq_getElem hj]
/-- a string out of bytes, in each world of S -/
theorem yieldsIf_bstr {S : World → Prop} {src t : TypeId} {x : Operand} {oi : Oper} (hop : oi.op = .convert src t x) (hw : Region.wanted oi (yielded ops a.tmps) = true) (v : Value) (l : List UInt8) (e : TypeId) (hx : a.eval x = v) (hb : ∀ w, S w → BytesAt w v l)
    (hs : P.underlying src = some (.slice e)) (he : P.underlying e = some (.int .u8)) (hd : P.underlying t = some .string) : YieldsIf P ops S oi (vs l) a :=
  .inl ⟨hw, fun w hS => by
    unfold execOp
    simp only [hop, hx, Sem.run_bind, run_bstr (hb w hS) hs he hd, Result.andThen_ok]; rfl⟩
end
theorem str_extract (l : List UInt8) (a b : Nat) : (⟨l.toArray⟩ : ByteArray).extract a b = ⟨((l.take b).drop a).toArray⟩ := by
  apply ByteArray.ext
  simp [List.drop_take]
section
variable {P : Program} {ops : Array Oper} {a : Act}
theorem run_sslice (w : World) (t : TypeId) (l : List UInt8) (i j : Nat) (h : P.underlying t = some .string) (hij : i ≤ j) (hj : j ≤ l.length) :
    (Instr.sliceAt t (vs l) (some (.int .i64 (i : Int))) (some (.int .i64 (j : Int))) none).run P w = .ok (vs ((l.take j).drop i)) w := by
  rw [run_sliceAt_string w t _ _ _ _ h, run_slice_string w t _ .i64 .i64 _ _ h (by omega) (by omega) (by rw [vs_size]; omega), Int.toNat_natCast, Int.toNat_natCast, str_extract]
theorem run_sslice_to (w : World) (t : TypeId) (l : List UInt8) (j : Nat) (h : P.underlying t = some .string) (hj : j ≤ l.length) :
    (Instr.sliceAt t (vs l) none (some (.int .i64 (j : Int))) none).run P w = .ok (vs (l.take j)) w := by
  rw [run_sliceAt_string w t _ _ _ _ h, run_slice_string_h w t _ h .i64 _ (by omega) (by rw [vs_size]; omega)]
  rw [Int.toNat_natCast, str_extract, List.drop_zero]
theorem run_sslice_from (w : World) (t : TypeId) (l : List UInt8) (i : Nat) (h : P.underlying t = some .string) (hj : i ≤ l.length) :
    (Instr.sliceAt t (vs l) (some (.int .i64 (i : Int))) none none).run P w = .ok (vs (l.drop i)) w := by
  rw [run_sliceAt_string w t _ _ _ _ h, run_slice_string_l w t _ h .i64 _ (by omega) (by rw [vs_size]; omega)]
  rw [Int.toNat_natCast, str_extract, vs_size, List.take_length]
/-- a text's beginning, in each world of S -/
theorem yieldsIf_sprefix {S : World → Prop} {t : TypeId} {x y : Operand} {oi : Oper} (hop : oi.op = .slice t x none (some y) none) (hw : Region.wanted oi (yielded ops a.tmps) = true) (l : List UInt8) (j : Nat)
    (hx : a.eval x = vs l) (hy : a.eval y = .int .i64 (j : Int)) (hj : j ≤ l.length) (h : P.underlying t = some .string) : YieldsIf P ops S oi (vs (l.take j)) a :=
  .inl ⟨hw, fun w _ => by
    unfold execOp
    simp only [hop, hx, hy, Option.map_some, Option.map_none, Sem.run_bind, run_sslice_to w t l j h hj, Result.andThen_ok]; rfl⟩
theorem yieldsIf_ssuffix {S : World → Prop} {t : TypeId} {x y : Operand} {oi : Oper} (hop : oi.op = .slice t x (some y) none none) (hw : Region.wanted oi (yielded ops a.tmps) = true) (l : List UInt8) (i : Nat)
    (hx : a.eval x = vs l) (hy : a.eval y = .int .i64 (i : Int)) (hj : i ≤ l.length) (h : P.underlying t = some .string) : YieldsIf P ops S oi (vs (l.drop i)) a :=
  .inl ⟨hw, fun w _ => by
    unfold execOp
    simp only [hop, hx, hy, Option.map_some, Option.map_none, Sem.run_bind, run_sslice_from w t l i h hj, Result.andThen_ok]; rfl⟩
theorem yieldsIf_spart {S : World → Prop} {t : TypeId} {x y z : Operand} {oi : Oper} (hop : oi.op = .slice t x (some y) (some z) none) (hw : Region.wanted oi (yielded ops a.tmps) = true) (l : List UInt8) (i j : Nat)
    (hx : a.eval x = vs l) (hy : a.eval y = .int .i64 (i : Int)) (hz : a.eval z = .int .i64 (j : Int)) (hij : i ≤ j) (hj : j ≤ l.length) (h : P.underlying t = some .string) : YieldsIf P ops S oi (vs ((l.take j).drop i)) a :=
  .inl ⟨hw, fun w _ => by
    unfold execOp
    simp only [hop, hx, hy, hz, Option.map_some, Option.map_none, Sem.run_bind, run_sslice w t l i j h hij hj, Result.andThen_ok]; rfl⟩
end
/-- the disk behind a step, and whether there was power for it -/
def dstepB (d : Disk) : Disk × Bool := if d.steps = 0 then (d, false) else (d.step, true)
/-- the cells of the reference's disk -/
def dcells (d : Disk) : Array Value := #[.int .i64 (d.room : Int), .int .i64 (d.sure : Int), .int .i64 d.steps, vs d.bytes]
abbrev dval (d : Disk) : Value := .agg (dcells d)
theorem dcells_size (d : Disk) : (dcells d).size = 4 := rfl
theorem dcells_one (d : Disk) : ∀ v ∈ (dcells d).toList, v.oneCell' = true := by
  intro v hv; simp only [dcells, List.mem_cons, List.not_mem_nil, or_false] at hv
  rcases hv with rfl | rfl | rfl | rfl <;> rfl
theorem dblk_cells {w : World} {g : Nat} {d : Disk} {t : TypeId} (h : Blk w g (dcells d) t) : w.cell? ⟨g, 0, none⟩ = some (.int .i64 (d.room : Int)) ∧ w.cell? ⟨g, 1, none⟩ = some (.int .i64 (d.sure : Int)) ∧
    w.cell? ⟨g, 2, none⟩ = some (.int .i64 d.steps) ∧ w.cell? ⟨g, 3, none⟩ = some (vs d.bytes) := ⟨by rw [h.cell]; rfl, by rw [h.cell]; rfl, by rw [h.cell]; rfl, by rw [h.cell]; rfl⟩
end Scv
namespace Go.Proofs.Yteicjpjniaohhaa
open Go.RowKit Go.Shelf Scv
theorem Try.sdslab : (Try.prog.info? 47).map (·.size) = some 4 := by kernel_rfl
theorem isrow_of {o : Option TypeDesc} (h : o.map TypeDesc.isRow = some true) : ∃ d, o = some d ∧ d.isRow = true := by
  cases o with
  | none => cases h
  | some d => exact ⟨d, rfl, by simpa using h⟩
theorem Try.udslab : ∃ d, Try.prog.underlying 47 = some d ∧ d.isRow = true := isrow_of (by kernel_rfl)
theorem Try.zdslab : (Try.prog.info? 47).map (·.zero) = some (some (.agg (dcells ⟨0, [], 0, 0⟩))) := by kernel_rfl
theorem Try.sstr : (Try.prog.info? 9).map (·.size) = some 1 := by kernel_rfl
set_option maxRecDepth 100000 in
set_option maxHeartbeats 1000000 in
theorem dstep_calls (d : Disk) (w : World) (h1 : -1 ≤ d.steps) (h2 : d.steps ≤ 9223372036854775807) :
    Calls Try.prog 54 #[dval d] w fun e w' => e = .returned (.tuple #[dval (dstepB d).1, .bool (dstepB d).2]) ∧ w.grownBy w' none := by
  obtain ⟨td, hu, htd⟩ := Try.udslab
  go_enter Try.func54, Try.ntmps54
  go_wp2_with (first | (with_reducible refine law_box (.agg (dcells d)) rfl ?_) | (with_reducible refine law_alloc _ Try.zdslab ?_))
  intro W1 hb1 hg1 hz1
  go_wp2_with (first | (with_reducible refine law_box (.agg (dcells d)) rfl ?_) | (with_reducible refine law_alloc _ Try.zdslab ?_))
  intro W2 hb2 hg2 hz2
  obtain ⟨g1, hg1'⟩ : ∃ g, g = w.heap.size := ⟨_, rfl⟩
  obtain ⟨g2, hg2'⟩ : ∃ g, g = W1.heap.size := ⟨_, rfl⟩
  rw [← hg1'] at hb1
  rw [← hg2'] at hb2
  rw [← hg1', ← hg2']
  replace hb1 : Blk W2 g1 (dcells d) 47 := Blk.kept (cs := dcells d) hb1 hg2 (by simp)
  replace hb2 : Blk W2 g2 (dcells ⟨0, [], 0, 0⟩) 47 := hb2
  have hG2 := grown_trans hg1 hg2
  have HG := Lib.hid (show g1 ≠ g2 ∧ w.heap.size ≤ g1 ∧ w.heap.size ≤ g2 by omega)
  have HG2 := Lib.hid hG2
  obtain ⟨c0, c1, c2, c3⟩ := dblk_cells hb1
  have f2 := hb1.frozen 2
  clear hg1 hg2 hg1' hg2' hz1 hz2 hG2
  by_cases h0 : d.steps = 0
  · have t0 : (d.steps == 0) = true := by rw [h0]; rfl
    have H0 := Lib.hid h0
    clear h0
    go_wp2_with (first | ((with_reducible refine law_loadw g1 (dcells d) _ _ ?_ hb1 hu htd ?_ ?_); rfl; exact Try.sdslab) |
      ((with_reducible refine law_storew g2 (dcells d) _ _ ?_ ?_ hb2 ?_ ?_ ?_ ?_); rfl; rfl; rfl; exact dcells_one d; exact Try.sdslab))
    intro W3 hb3 hg3 hz3
    go_wp2_with fail
    refine bodyPost_ret (results_row2 rfl _ _ g2 47 _ _ _ rfl hb3 hu htd Try.sdslab _ rfl) rfl ?_
    exact ⟨by unfold dstepB; rw [if_pos H0.out]; rfl, grown_new HG2.out hg3 (by rintro _ ⟨⟩; exact HG.out.2.2)⟩
  · have t0 : (d.steps == 0) = false := by rw [beq_eq_false_iff_ne]; exact h0
    have H0 := Lib.hid h0
    by_cases hp : 0 < d.steps
    · have e1 : IntKind.i64.wrap (d.steps - 1) = d.steps - 1 := IntWalk.i64_in _ (by omega)
      have hst : d.step.steps = d.steps - 1 := by show max (d.steps - 1) (-1) = _; omega
      have hset : (dcells d).setIfInBounds 2 (.int .i64 (d.steps - 1)) = dcells d.step := by unfold dcells; rw [hst]; rfl
      clear h0 hst
      go_wp2_with ((with_reducible refine law_store1 g1 2 (.int .i64 (d.steps - 1)) _ _ ?_ ?_ hb1 ?_ ?_ Try.sint ?_); rfl; rfl; exact (by decide : 2 < 4); rfl)
      intro W4 hb4 hg4 hz4
      rw [hset] at hb4
      have hb24 := hb2.kept hg4 (by simpa using fun e => HG.out.1 e.symm)
      have HG4 := Lib.hid hg4
      clear hb1 hb2 hg4 hz4 hset c0 c1 c2 c3 f2
      go_wp2_with (first | ((with_reducible refine law_loadw g1 (dcells d.step) _ _ ?_ hb4 hu htd ?_ ?_); rfl; exact Try.sdslab) |
        ((with_reducible refine law_storew g2 (dcells d.step) _ _ ?_ ?_ hb24 ?_ ?_ ?_ ?_); rfl; rfl; rfl; exact dcells_one d.step; exact Try.sdslab))
      intro W5 hb5 hg5 hz5
      go_wp2_with fail
      refine bodyPost_ret (results_row2 rfl _ _ g2 47 _ _ _ rfl hb5 hu htd Try.sdslab _ rfl) rfl ?_
      exact ⟨by unfold dstepB; rw [if_neg H0.out]; rfl, grown_new (grown_new HG2.out HG4.out (by rintro _ ⟨⟩; exact HG.out.2.1)) hg5 (by rintro _ ⟨⟩; exact HG.out.2.2)⟩
    · have hst : d.step = d := by
        have : d.steps = -1 := by omega
        unfold Disk.step; rw [this]
        cases d; simp at this; subst this; rfl
      clear h0
      go_wp2_with (first | ((with_reducible refine law_loadw g1 (dcells d) _ _ ?_ hb1 hu htd ?_ ?_); rfl; exact Try.sdslab) |
        ((with_reducible refine law_storew g2 (dcells d) _ _ ?_ ?_ hb2 ?_ ?_ ?_ ?_); rfl; rfl; rfl; exact dcells_one d; exact Try.sdslab))
      intro W5 hb5 hg5 hz5
      go_wp2_with fail
      refine bodyPost_ret (results_row2 rfl _ _ g2 47 _ _ _ rfl hb5 hu htd Try.sdslab _ rfl) rfl ?_
      exact ⟨by unfold dstepB; rw [if_neg H0.out, hst]; rfl, grown_new HG2.out hg5 (by rintro _ ⟨⟩; exact HG.out.2.2)⟩
set_option maxRecDepth 100000 in
set_option maxHeartbeats 1000000 in
theorem dcut_calls (d : Disk) (n : Nat) (w : World) (hd : d.ok) (hn : n ≤ d.bytes.length) :
    Calls Try.prog 42 #[dval d, .int .i64 (n : Int)] w fun e w' => e = .returned (.tuple #[dval (d.cut n).1, .int .i64 (d.cut n).2]) ∧ w.grownBy w' none := by
  obtain ⟨td, hu, htd⟩ := Try.udslab
  have hl : d.bytes.length ≤ 4194304 := Nat.le_trans hd.fits hd.room
  have hs := hd.sure
  have H1 := Lib.hid (And.intro hd.low hd.high)
  have t1 : ¬ (n : Int) < 0 := by omega
  have t2 : ¬ (d.bytes.length : Int) < n := by omega
  go_enter Try.func42, Try.ntmps42
  go_wp2_with (first | (with_reducible refine law_box (.agg (dcells d)) rfl ?_) | (with_reducible refine law_alloc _ Try.zdslab ?_))
  intro W1 hb1 hg1 hz1
  go_wp2_with (first | (with_reducible refine law_box (.agg (dcells d)) rfl ?_) | (with_reducible refine law_alloc _ Try.zdslab ?_))
  intro W2 hb2 hg2 hz2
  obtain ⟨g1, hg1'⟩ : ∃ g, g = w.heap.size := ⟨_, rfl⟩
  obtain ⟨g2, hg2'⟩ : ∃ g, g = W1.heap.size := ⟨_, rfl⟩
  rw [← hg1'] at hb1
  rw [← hg2'] at hb2
  rw [← hg1', ← hg2']
  replace hb1 : Blk W2 g1 (dcells d) 47 := Blk.kept (cs := dcells d) hb1 hg2 (by simp)
  replace hb2 : Blk W2 g2 (dcells ⟨0, [], 0, 0⟩) 47 := hb2
  have HG2 := Lib.hid (grown_trans hg1 hg2)
  have HG := Lib.hid (show g1 ≠ g2 ∧ w.heap.size ≤ g1 ∧ w.heap.size ≤ g2 by omega)
  obtain ⟨c0, c1, c2, c3⟩ := dblk_cells hb1
  clear hg1 hg2 hg1' hg2' hz1 hz2
  go_wp2_with ((with_reducible refine law_loadw g1 (dcells d) _ _ ?_ hb1 hu htd ?_ ?_); rfl; exact Try.sdslab)
  refine (dstep_calls d W2 H1.out.1 H1.out.2).mono ?_
  rintro _ W3 ⟨rfl, hg3⟩
  have hb13 := hb1.kept hg3 (by simp)
  have hb23 := hb2.kept hg3 (by simp)
  have HG3 := Lib.hid (grown_trans HG2.out hg3)
  clear hb1 hb2 hg3 HG2 c0 c1 c2 c3
  by_cases h0 : d.steps = 0
  · have hsb : dstepB d = (d, false) := if_pos h0
    rw [hsb]
    have H0 := Lib.hid h0
    clear hsb h0
    go_wp2_with (with_reducible refine law_alloc _ Try.zdslab ?_)
    intro W4 hb4 hg4 hz4
    obtain ⟨g4, hg4'⟩ : ∃ g, g = W3.heap.size := ⟨_, rfl⟩
    rw [← hg4'] at hb4
    rw [← hg4']
    replace hb4 : Blk W4 g4 (dcells ⟨0, [], 0, 0⟩) 47 := hb4
    go_wp2_with ((with_reducible refine law_storew g4 (dcells d) _ _ ?_ ?_ hb4 ?_ ?_ ?_ ?_); rfl; rfl; rfl; exact dcells_one d; exact Try.sdslab)
    intro W5 hb5 hg5 hz5
    have hn4 : g1 < g4 ∧ g2 < g4 ∧ w.heap.size ≤ g4 := by
      have h1 := hb13.lt
      have h2 := hb23.lt
      have h3 := HG3.out.size
      omega
    have hb15 := (hb13.kept hg4 (by simp)).kept hg5 (by simp; omega)
    have hb25 := (hb23.kept hg4 (by simp)).kept hg5 (by simp; omega)
    have HG5 := Lib.hid (grown_new (grown_trans HG3.out hg4) hg5 (by rintro _ ⟨⟩; exact hn4.2.2))
    clear hg4 hg5 hz4 hz5 hg4' hb13 hb23 hb4 hn4 HG3
    go_wp2_with (first | ((with_reducible refine law_loadw g1 (dcells d) _ _ ?_ hb15 hu htd ?_ ?_); rfl; exact Try.sdslab) |
      ((with_reducible refine law_storew g2 (dcells d) _ _ ?_ ?_ hb25 ?_ ?_ ?_ ?_); rfl; rfl; rfl; exact dcells_one d; exact Try.sdslab))
    intro W6 hb6 hg6 hz6
    go_wp2_with fail
    refine bodyPost_ret (results_row2 rfl _ _ g2 47 _ _ _ rfl hb6 hu htd Try.sdslab _ rfl) rfl ?_
    exact ⟨by unfold Disk.cut; rw [if_pos H0.out]; rfl, grown_new HG5.out hg6 (by rintro _ ⟨⟩; exact HG.out.2.2)⟩
  · have hsb : dstepB d = (d.step, true) := if_neg h0
    rw [hsb]
    have H0 := Lib.hid h0
    clear hsb h0
    go_wp2_with (with_reducible refine law_alloc _ Try.zdslab ?_)
    intro W4 hb4 hg4 hz4
    obtain ⟨g4, hg4'⟩ : ∃ g, g = W3.heap.size := ⟨_, rfl⟩
    rw [← hg4'] at hb4
    rw [← hg4']
    replace hb4 : Blk W4 g4 (dcells ⟨0, [], 0, 0⟩) 47 := hb4
    go_wp2_with ((with_reducible refine law_storew g4 (dcells d.step) _ _ ?_ ?_ hb4 ?_ ?_ ?_ ?_); rfl; rfl; rfl; exact dcells_one d.step; exact Try.sdslab)
    intro W5 hb5 hg5 hz5
    have hn4 : g1 < g4 ∧ g2 < g4 ∧ w.heap.size ≤ g4 := by
      have h1 := hb13.lt
      have h2 := hb23.lt
      have h3 := HG3.out.size
      omega
    have hb25 := (hb23.kept hg4 (by simp)).kept hg5 (by simp; omega)
    have HN4 := Lib.hid hn4
    have HG5 := Lib.hid (grown_new (grown_trans HG3.out hg4) hg5 (by rintro _ ⟨⟩; exact hn4.2.2))
    clear hg4 hg5 hz4 hz5 hg4' hb13 hb23 hb4 hn4 HG3
    have hc1 : d.step.sure = d.sure := rfl
    have hc3 : d.step.bytes = d.bytes := rfl
    obtain ⟨c0, c1, c2, c3⟩ := dblk_cells hb5
    rw [hc1] at c1
    rw [hc3] at c3
    clear hc1 hc3
    go_wp2_with ((with_reducible refine law_store1 g4 3 (vs (d.bytes.take n)) _ _ ?_ ?_ hb5 ?_ ?_ Try.sstr ?_); rfl; exact congrArg Value.string (str_extract d.bytes 0 n); exact (by decide : 3 < 4); rfl)
    intro W6 hb6 hg6 hz6
    have hb6 : Blk W6 g4 (dcells { d.step with bytes := d.bytes.take n }) 47 := hb6
    have hb26 := hb25.kept hg6 (by have := HN4.out; simp; omega)
    have HG6 := Lib.hid (grown_new HG5.out hg6 (by rintro _ ⟨⟩; exact HN4.out.2.2))
    clear hb5 hb25 c0 c1 c2 c3 hg6 hz6 HG5
    obtain ⟨c0, c1, c2, c3⟩ := dblk_cells hb6
    have hc1 : ({ d.step with bytes := d.bytes.take n } : Disk).sure = d.sure := rfl
    rw [hc1] at c1
    clear hc1 c0 c2 c3
    by_cases hsn : n < d.sure
    · have hsn' : (n : Int) < d.sure := by omega
      go_wp2_with ((with_reducible refine law_store1 g4 1 (.int .i64 (n : Int)) _ _ ?_ ?_ hb6 ?_ ?_ Try.sint ?_); rfl; rfl; exact (by decide : 1 < 4); rfl)
      intro W7 hb7 hg7 hz7
      have hb7 : Blk W7 g4 (dcells { d.step with bytes := d.bytes.take n, sure := n }) 47 := hb7
      have hb27 := hb26.kept hg7 (by have := HN4.out; simp; omega)
      have HG7 := Lib.hid (grown_new HG6.out hg7 (by rintro _ ⟨⟩; exact HN4.out.2.2))
      clear hb6 hb26 c1 hg7 hz7 HG6
      have hcut : d.cut n = ({ d.step with bytes := d.bytes.take n, sure := n }, 0) := by
        unfold Disk.cut; rw [if_neg H0.out, Nat.min_eq_right (by omega)]
      have HC := Lib.hid hcut
      clear hcut
      go_wp2_with (first | ((with_reducible refine law_loadw g4 _ _ _ ?_ hb7 hu htd ?_ ?_); rfl; exact Try.sdslab) |
        ((with_reducible refine law_storew g2 (dcells { d.step with bytes := d.bytes.take n, sure := n }) _ _ ?_ ?_ hb27 ?_ ?_ ?_ ?_); rfl; rfl; rfl; exact dcells_one _; exact Try.sdslab))
      intro W8 hb8 hg8 hz8
      go_wp2_with fail
      refine bodyPost_ret (results_row2 rfl _ _ g2 47 _ _ _ rfl hb8 hu htd Try.sdslab _ rfl) rfl ?_
      exact ⟨by rw [HC.out]; rfl, grown_new HG7.out hg8 (by rintro _ ⟨⟩; exact HG.out.2.2)⟩
    · have hsn' : ¬ (n : Int) < d.sure := by omega
      have hcut : d.cut n = ({ d.step with bytes := d.bytes.take n }, 0) := by
        unfold Disk.cut; rw [if_neg H0.out, Nat.min_eq_left (by omega)]; rfl
      have HC := Lib.hid hcut
      clear hcut
      go_wp2_with (first | ((with_reducible refine law_loadw g4 _ _ _ ?_ hb6 hu htd ?_ ?_); rfl; exact Try.sdslab) |
        ((with_reducible refine law_storew g2 (dcells { d.step with bytes := d.bytes.take n }) _ _ ?_ ?_ hb26 ?_ ?_ ?_ ?_); rfl; rfl; rfl; exact dcells_one _; exact Try.sdslab))
      intro W8 hb8 hg8 hz8
      go_wp2_with fail
      refine bodyPost_ret (results_row2 rfl _ _ g2 47 _ _ _ rfl hb8 hu htd Try.sdslab _ rfl) rfl ?_
      exact ⟨by rw [HC.out]; rfl, grown_new HG6.out hg8 (by rintro _ ⟨⟩; exact HG.out.2.2)⟩
end Go.Proofs.Yteicjpjniaohhaa
