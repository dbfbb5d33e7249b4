/- The reference's disk: Spoil. -/
import Derived.Test.YteicjpjniaohhaaRDisk2
set_option linter.unusedVariables false
set_option linter.unusedSimpArgs false
namespace Scv
open Go Go.RowKit
section
variable {P : Program} {ops : Array Oper} {o : Oper} {a : Act} {w : World} {K : Act → World → Prop} {Q : Exit → Act → World → Prop} {E : Prop}
theorem yields_of {oi : Oper} {v : Value} (h : YieldsIf P ops (fun _ => True) oi v a) : Yields P ops oi v a := by
  rcases h with ⟨h1, h2⟩ | h
  · exact .inl ⟨h1, fun w => h2 w trivial⟩
  · exact .inr h
/-- one cell is loaded -/
theorem step_load1 (dst : Option Tmp) (hdst : o.dst = dst) {ty : TypeId} {x : Operand} (hop : o.op = .load ty x) (hg : o.guard = none) (p : Addr) (v : Value) (d : TypeDesc)
    (hx : a.eval x = .pointer (some p)) (hc : w.cell? p = some v) (hu : P.underlying ty = some d) (hd : d.isRow = false)
    (k : K (a.put dst v) w) : if Region.wanted o (yielded ops a.tmps) = true then Oper.wp P o a w K Q else E :=
  step_val dst hdst hg (by
    have hagg : (isAgg ty).run P w = .ok false w := by
      unfold isAgg
      rw [Sem.run_bind, run_underlying hu w]
      cases d <;> simp_all [TypeDesc.isRow]
    unfold execOp
    simp only [hop, hx, Instr.loadAt, Instr.sureAddr, Sem.run_bind, Sem.run_pure, Result.andThen_ok]
    simp [loadVar, Sem.run_bind, hagg, load, Sem.run, hc]) k
/-- one cell is stored -/
theorem step_store1 (dst : Option Tmp) (hdst : o.dst = dst) {ty : TypeId} {x y : Operand} (hop : o.op = .store ty x y) (hgd : o.guard = none) (g off : Nat) (v : Value) (cur : Array Value) (t : TypeId) (hx : a.eval x = .pointer (some ⟨g, off, none⟩)) (hy : a.eval y = v) (hg : Blk w g cur t)
    (hle : off < cur.size) (h1 : v.oneCell' = true) (hi : (P.info? ty).map (·.size) = some 1)
    (k : ∀ W, Blk W g (cur.setIfInBounds off v) t → w.grownBy W (some g) → W.heap.size = w.heap.size → K (a.put dst undef) W) :
    if Region.wanted o (yielded ops a.tmps) = true then Oper.wp P o a w K Q else E :=
  step_skip dst hdst hgd (w' := w.setCell ⟨g, off, none⟩ v) (by
    have hc : v.cells = #[v] := cells_one v h1
    have hcell : w.cell? ⟨g, off, none⟩ = some cur[off] := by rw [hg.cell]; exact Array.getElem?_eq_getElem hle
    have hfz := hg.frozen off
    cases hq : P.info? ty with
    | none => simp [hq] at hi
    | some i =>
      have hs : i.size = 1 := by simpa [hq] using hi
      have hst : (storeCells ⟨g, off, none⟩ [v]).run P w = .ok () (w.setCell ⟨g, off, none⟩ v) := by
        cases v <;> first | (simp [Value.oneCell'] at h1; done) | (simp [storeCells, store, Sem.run, hcell, hg.frozen, Addr.add, Sem.bind, bind, pure])
      unfold execOp
      simp only [hop, hx, hy, Instr.storeAt, Instr.sureAddr, Sem.run_bind, Sem.run_pure, Result.andThen_ok]
      simp [storeVar, Go.sizeOf, typeInfo, hq, hc, hs, hst]) (k _ (hg.set off v) (grown_set w g off v) (by show (w.heap.modify _ _).size = _; rw [Array.size_modify]))
end
/-- another byte at a place, if there is one -/
def Disk.dspoilt (d : Disk) (at' : Int) (x : UInt8) : Disk × Int := if at' < 0 ∨ (d.bytes.length : Int) ≤ at' then (d, 1) else (d.spoil at'.toNat x, 0)
theorem spoil_text (l : List UInt8) (n : Nat) (x : UInt8) (h : n < l.length) : l.take n ++ [x] ++ l.drop (n + 1) = l.set n x := by
  rw [List.set_eq_take_append_cons_drop, if_pos h]; simp
end Scv
namespace Go.Proofs.Yteicjpjniaohhaa
open Go.RowKit Go.Shelf Scv
set_option maxRecDepth 100000 in
set_option maxHeartbeats 4000000 in
theorem dspoil_calls (d : Disk) (at' : Int) (x : UInt8) (w : World) (hd : d.ok) :
    Calls Try.prog 29 #[dval d, .int .i64 at', .int .u8 (x.toNat : Int)] w fun e w' => e = .returned (.tuple #[dval (d.dspoilt at' x).1, .int .i64 (d.dspoilt at' x).2]) ∧ w.grownBy w' none := by
  obtain ⟨td, hu, htd⟩ := Try.udslab
  have hN : d.bytes.length ≤ 4194304 := Nat.le_trans hd.fits hd.room
  go_enter Try.func29, Try.ntmps29
  go_wp2_with (first | (with_reducible refine law_box (.agg (dcells d)) rfl ?_) | (with_reducible refine law_alloc _ Try.zdslab ?_))
  intro W1 hb1 hg1 hz1
  go_wp2_with (first | (with_reducible refine law_box (.agg (dcells d)) rfl ?_) | (with_reducible refine law_alloc _ Try.zdslab ?_))
  intro W2 hb2 hg2 hz2
  obtain ⟨g1, hg1'⟩ : ∃ g, g = w.heap.size := ⟨_, rfl⟩
  obtain ⟨g2, hg2'⟩ : ∃ g, g = W1.heap.size := ⟨_, rfl⟩
  rw [← hg1'] at hb1
  rw [← hg2'] at hb2
  rw [← hg1', ← hg2']
  replace hb1 : Blk W2 g1 (dcells d) 47 := Blk.kept (cs := dcells d) hb1 hg2 (by simp)
  replace hb2 : Blk W2 g2 (dcells ⟨0, [], 0, 0⟩) 47 := hb2
  have HG2 := Lib.hid (grown_trans hg1 hg2)
  have HG := Lib.hid (show g1 ≠ g2 ∧ w.heap.size ≤ g1 ∧ w.heap.size ≤ g2 by omega)
  clear hg1 hg2 hg1' hg2' hz1 hz2
  obtain ⟨c0, c1, c2, c3⟩ := dblk_cells hb1
  by_cases hneg : at' < 0
  · have hsp : d.dspoilt at' x = (d, 1) := if_pos (.inl hneg)
    have HS := Lib.hid hsp
    clear hsp
    go_wp2_with (first | ((with_reducible refine law_loadw g1 (dcells d) _ _ ?_ hb1 hu htd ?_ ?_); rfl; exact Try.sdslab) |
      ((with_reducible refine law_storew g2 (dcells d) _ _ ?_ ?_ hb2 ?_ ?_ ?_ ?_); rfl; rfl; rfl; exact dcells_one d; exact Try.sdslab))
    intro W6 hb6 hg6 hz6
    go_wp2_with fail
    refine bodyPost_ret (results_row2 rfl _ _ g2 47 _ _ _ rfl hb6 hu htd Try.sdslab _ rfl) rfl ?_
    exact ⟨by rw [HS.out]; rfl, grown_new HG2.out hg6 (by rintro _ ⟨⟩; exact HG.out.2.2)⟩
  by_cases hbig : (d.bytes.length : Int) ≤ at'
  · have hsp : d.dspoilt at' x = (d, 1) := if_pos (.inr hbig)
    have HS := Lib.hid hsp
    clear hsp
    go_wp2_with (first | ((with_reducible refine law_loadw g1 (dcells d) _ _ ?_ hb1 hu htd ?_ ?_); rfl; exact Try.sdslab) |
      ((with_reducible refine law_storew g2 (dcells d) _ _ ?_ ?_ hb2 ?_ ?_ ?_ ?_); rfl; rfl; rfl; exact dcells_one d; exact Try.sdslab))
    intro W6 hb6 hg6 hz6
    go_wp2_with fail
    refine bodyPost_ret (results_row2 rfl _ _ g2 47 _ _ _ rfl hb6 hu htd Try.sdslab _ rfl) rfl ?_
    exact ⟨by rw [HS.out]; rfl, grown_new HG2.out hg6 (by rintro _ ⟨⟩; exact HG.out.2.2)⟩
  obtain ⟨n, rfl⟩ : ∃ n : Nat, at' = n := ⟨at'.toNat, by omega⟩
  have hnl : n < d.bytes.length := by omega
  have hsp : d.dspoilt n x = (d.spoil n x, 0) := by unfold Disk.dspoilt; rw [if_neg (by omega), Int.toNat_natCast]
  have hst := spoil_text d.bytes n x hnl
  have HS := Lib.hid (And.intro hsp hst)
  have s1 : IntKind.i64.wrap ((n : Int) + 1) = ((n + 1 : Nat) : Int) := by rw [IntWalk.i64_in _ (by omega)]; omega
  have t1 : ¬ (n : Int) < 0 := by omega
  have t2 : ¬ (d.bytes.length : Int) ≤ n := by omega
  have bl1 : (d.bytes.take n).length + [x].length < 4611686018427387904 := by simp; omega
  have bl2 : (d.bytes.take n ++ [x]).length + (d.bytes.drop (n + 1)).length < 4611686018427387904 := by simp; omega
  have HBL := Lib.hid (And.intro bl1 bl2)
  clear hsp hst hneg hbig bl1 bl2 c0 c1 c2
  go_wp2_with fail
  refine wp_region_any (by kernel_rfl) ?_
  change wpAny _ _ _ _ _ _ _ (World.drew _)
  refine any_take 0 (some 18) (v := ?_) rfl rfl (by kernel_rfl) (by kernel_rfl) (by kernel_rfl) (fun _ _ _ h => h) (Or.inl ⟨by rfl, ?_⟩) ?_
  rotate_left
  · intro w
    go_simp
    try (with_reducible rfl)
  simp only [Act.put, List.setIfInBounds_toArray, List.set_cons_zero, List.set_cons_succ]
  refine any_take 2 (some 20) (v := ?_) rfl rfl (by kernel_rfl) (by kernel_rfl) (by kernel_rfl) (fun _ _ _ h => h) (Or.inl ⟨by rfl, ?_⟩) ?_
  rotate_left
  · intro w
    go_simp
    try (with_reducible rfl)
  simp only [Act.put, List.setIfInBounds_toArray, List.set_cons_zero, List.set_cons_succ]
  refine any_take 4 (some 22) (v := ?_) rfl rfl (by kernel_rfl) (by kernel_rfl) (by kernel_rfl) (fun _ _ _ h => h) (Or.inl ⟨by rfl, ?_⟩) ?_
  rotate_left
  · intro w
    go_simp
    try (with_reducible rfl)
  simp only [Act.put, List.setIfInBounds_toArray, List.set_cons_zero, List.set_cons_succ]
  refine any_take 8 (some 26) (v := ?_) rfl rfl (by kernel_rfl) (by kernel_rfl) (by kernel_rfl) (fun _ _ _ h => h) (Or.inl ⟨by rfl, ?_⟩) ?_
  rotate_left
  · intro w
    go_simp
    try (with_reducible rfl)
  simp only [Act.put, List.setIfInBounds_toArray, List.set_cons_zero, List.set_cons_succ]
  refine any_take 10 (some 28) (v := ?_) rfl rfl (by kernel_rfl) (by kernel_rfl) (by kernel_rfl) (fun _ _ _ h => h) (Or.inl ⟨by rfl, ?_⟩) ?_
  rotate_left
  · intro w
    go_simp
    try (with_reducible rfl)
  simp only [Act.put, List.setIfInBounds_toArray, List.set_cons_zero, List.set_cons_succ]
  refine any_take 11 (some 29) (v := ?_) rfl rfl (by kernel_rfl) (by kernel_rfl) (by kernel_rfl) (fun _ _ _ h => h) (Or.inl ⟨by rfl, ?_⟩) ?_
  rotate_left
  · intro w
    go_simp
    try (with_reducible rfl)
  simp only [Act.put, List.setIfInBounds_toArray, List.set_cons_zero, List.set_cons_succ]
  refine wpAny_ready (rs := [1, 5, 9]) (by kernel_rfl) (by simp) ?_
  refine AllReady.cons rfl (fun K hK => ?_) (AllReady.cons rfl (fun K hK => ?_) (AllReady.cons rfl (fun K hK => ?_) AllReady.nil))
  · refine step_load1 (some 19) rfl rfl rfl ⟨g1, 3, none⟩ (vs d.bytes) _ rfl c3 Try.nstr rfl ?_
    refine hK _ _ ?_
    clear hK K
    simp only [Act.put, List.setIfInBounds_toArray, List.set_cons_zero, List.set_cons_succ]
    refine any_take 3 (some 21) (v := vs (d.bytes.take n)) rfl rfl (by kernel_rfl) (by kernel_rfl) (by kernel_rfl) (fun _ _ _ h => h) ?_ ?_
    · exact yields_of (yieldsIf_sprefix rfl rfl d.bytes n rfl rfl (by omega) Try.ustr)
    simp only [Act.put, List.setIfInBounds_toArray, List.set_cons_zero, List.set_cons_succ]
    refine wpAny_ready (rs := [5, 9]) (by kernel_rfl) (by simp) ?_
    refine AllReady.cons rfl (fun K hK => ?_) (AllReady.cons rfl (fun K hK => ?_) AllReady.nil)
    · refine step_bslice (some 23) rfl rfl rfl 5 [vb x] Try.ubytes Try.zu8 (by omega) rfl (by omega) (by intro v hv; rw [List.mem_singleton.1 hv]; rfl) rfl ?_
      intro W5 hb5 hg5 hz5
      have hbb5 : BytesAt W5 (.slice (some ⟨W2.drew.heap.size, 0, none⟩) 1 1) [x] := Blk.bytes (l := [x]) (t := 5) hb5 1
      have hk5 := (hb1.kept (grown_drew W2 none) (by simp)).kept hg5 (by simp)
      have hk25 := (hb2.kept (grown_drew W2 none) (by simp)).kept hg5 (by simp)
      have hG5 := grown_trans (grown_trans HG2.out (grown_drew W2 none)) hg5
      have c35 := (dblk_cells hk5).2.2.2
      clear hb5 hz5
      refine hK _ _ ?_
      clear hK K
      simp only [Act.put, List.setIfInBounds_toArray, List.set_cons_zero, List.set_cons_succ]
      refine wpAny_ready (rs := [6, 9]) (by kernel_rfl) (by simp) ?_
      refine AllReady.cons rfl (fun K hK => ?_) (AllReady.cons rfl (fun K hK => ?_) AllReady.nil)
      · refine gstep_bstring (some 24) rfl rfl rfl _ [x] 5 rfl hbb5 Try.ubytes Try.uu8 Try.ustr ?_
        refine hK _ _ ?_
        clear hK K
        simp only [Act.put, List.setIfInBounds_toArray, List.set_cons_zero, List.set_cons_succ]
        refine any_take 7 (some 25) (v := vs (d.bytes.take n ++ [x])) rfl rfl (by kernel_rfl) (by kernel_rfl) (by kernel_rfl) (fun _ _ _ h => h) ?_ ?_
        · exact yields_of (yieldsIf_sadd rfl rfl (d.bytes.take n) [x] rfl rfl (by kernel_rfl) HBL.out.1)
        simp only [Act.put, List.setIfInBounds_toArray, List.set_cons_zero, List.set_cons_succ]
        refine wpAny_ready (rs := [9]) (by kernel_rfl) (by simp) ?_
        refine AllReady.cons rfl (fun K hK => ?_) AllReady.nil
        refine step_load1 (some 27) rfl rfl rfl ⟨g1, 3, none⟩ (vs d.bytes) _ rfl c35 Try.nstr rfl ?_
        refine hK _ _ ?_
        clear hK K
        simp only [Act.put, List.setIfInBounds_toArray, List.set_cons_zero, List.set_cons_succ]
        refine any_take 12 (some 30) (v := vs (d.bytes.drop (n + 1))) rfl rfl (by kernel_rfl) (by kernel_rfl) (by kernel_rfl) (fun _ _ _ h => h) ?_ ?_
        · exact yields_of (yieldsIf_ssuffix rfl rfl d.bytes (n + 1) rfl rfl (by omega) Try.ustr)
        simp only [Act.put, List.setIfInBounds_toArray, List.set_cons_zero, List.set_cons_succ]
        refine any_take 13 (some 31) (v := vs (d.bytes.take n ++ [x] ++ d.bytes.drop (n + 1))) rfl rfl (by kernel_rfl) (by kernel_rfl) (by kernel_rfl) (fun _ _ _ h => h) ?_ ?_
        · exact yields_of (yieldsIf_sadd rfl rfl (d.bytes.take n ++ [x]) (d.bytes.drop (n + 1)) rfl rfl (by kernel_rfl) HBL.out.2)
        simp only [Act.put, List.setIfInBounds_toArray, List.set_cons_zero, List.set_cons_succ]
        refine any_take 14 (some 32) (v := ?_) rfl rfl (by kernel_rfl) (by kernel_rfl) (by kernel_rfl) (fun _ _ _ h => h) (Or.inl ⟨by rfl, ?_⟩) ?_
        rotate_left
        · intro w
          go_simp
          try (with_reducible rfl)
        simp only [Act.put, List.setIfInBounds_toArray, List.set_cons_zero, List.set_cons_succ]
        refine wpAny_ready (rs := [15]) (by kernel_rfl) (by simp) ?_
        refine AllReady.cons rfl (fun K hK => ?_) AllReady.nil
        refine step_store1 none rfl rfl rfl g1 3 (vs (d.bytes.take n ++ [x] ++ d.bytes.drop (n + 1))) _ _ rfl rfl hk5 (show 3 < 4 by omega) rfl Try.sstr ?_
        intro W6 hb6 hg6 hz6
        rw [HS.out.2] at hb6
        refine hK _ _ ?_
        clear hK K
        simp only [Act.put, List.setIfInBounds_toArray, List.set_cons_zero, List.set_cons_succ]
        refine wpAny_done (by kernel_rfl) ?_ _
        have hb6 : Blk W6 g1 (dcells (d.spoil n x)) 47 := hb6
        have hb26 := hk25.kept hg6 (by have := HG.out; simp; omega)
        have HG6 := Lib.hid (grown_new hG5 hg6 (by rintro _ ⟨⟩; exact HG.out.2.1))
        clear hk5 hk25 hG5 hg6 hz6 hg5 hbb5 c35 c3 hb1 hb2
        go_wp2_with (first | ((with_reducible refine law_loadw g1 _ _ _ ?_ hb6 hu htd ?_ ?_); rfl; exact Try.sdslab) |
          ((with_reducible refine law_storew g2 (dcells (d.spoil n x)) _ _ ?_ ?_ hb26 ?_ ?_ ?_ ?_); rfl; rfl; rfl; exact dcells_one _; exact Try.sdslab))
        intro W8 hb8 hg8 hz8
        go_wp2_with fail
        refine bodyPost_ret (results_row2 rfl _ _ g2 47 _ _ _ rfl hb8 hu htd Try.sdslab _ rfl) rfl ?_
        exact ⟨by rw [HS.out.1]; rfl, grown_new HG6.out hg8 (by rintro _ ⟨⟩; exact HG.out.2.2)⟩
      · refine step_load1 (some 27) rfl rfl rfl ⟨g1, 3, none⟩ (vs d.bytes) _ rfl c35 Try.nstr rfl ?_
        refine hK _ _ ?_
        clear hK K
        simp only [Act.put, List.setIfInBounds_toArray, List.set_cons_zero, List.set_cons_succ]
        refine any_take 12 (some 30) (v := vs (d.bytes.drop (n + 1))) rfl rfl (by kernel_rfl) (by kernel_rfl) (by kernel_rfl) (fun _ _ _ h => h) ?_ ?_
        · exact yields_of (yieldsIf_ssuffix rfl rfl d.bytes (n + 1) rfl rfl (by omega) Try.ustr)
        simp only [Act.put, List.setIfInBounds_toArray, List.set_cons_zero, List.set_cons_succ]
        refine wpAny_ready (rs := [6]) (by kernel_rfl) (by simp) ?_
        refine AllReady.cons rfl (fun K hK => ?_) AllReady.nil
        refine gstep_bstring (some 24) rfl rfl rfl _ [x] 5 rfl hbb5 Try.ubytes Try.uu8 Try.ustr ?_
        refine hK _ _ ?_
        clear hK K
        simp only [Act.put, List.setIfInBounds_toArray, List.set_cons_zero, List.set_cons_succ]
        refine any_take 7 (some 25) (v := vs (d.bytes.take n ++ [x])) rfl rfl (by kernel_rfl) (by kernel_rfl) (by kernel_rfl) (fun _ _ _ h => h) ?_ ?_
        · exact yields_of (yieldsIf_sadd rfl rfl (d.bytes.take n) [x] rfl rfl (by kernel_rfl) HBL.out.1)
        simp only [Act.put, List.setIfInBounds_toArray, List.set_cons_zero, List.set_cons_succ]
        refine any_take 13 (some 31) (v := vs (d.bytes.take n ++ [x] ++ d.bytes.drop (n + 1))) rfl rfl (by kernel_rfl) (by kernel_rfl) (by kernel_rfl) (fun _ _ _ h => h) ?_ ?_
        · exact yields_of (yieldsIf_sadd rfl rfl (d.bytes.take n ++ [x]) (d.bytes.drop (n + 1)) rfl rfl (by kernel_rfl) HBL.out.2)
        simp only [Act.put, List.setIfInBounds_toArray, List.set_cons_zero, List.set_cons_succ]
        refine any_take 14 (some 32) (v := ?_) rfl rfl (by kernel_rfl) (by kernel_rfl) (by kernel_rfl) (fun _ _ _ h => h) (Or.inl ⟨by rfl, ?_⟩) ?_
        rotate_left
        · intro w
          go_simp
          try (with_reducible rfl)
        simp only [Act.put, List.setIfInBounds_toArray, List.set_cons_zero, List.set_cons_succ]
        refine wpAny_ready (rs := [15]) (by kernel_rfl) (by simp) ?_
        refine AllReady.cons rfl (fun K hK => ?_) AllReady.nil
        refine step_store1 none rfl rfl rfl g1 3 (vs (d.bytes.take n ++ [x] ++ d.bytes.drop (n + 1))) _ _ rfl rfl hk5 (show 3 < 4 by omega) rfl Try.sstr ?_
        intro W6 hb6 hg6 hz6
        rw [HS.out.2] at hb6
        refine hK _ _ ?_
        clear hK K
        simp only [Act.put, List.setIfInBounds_toArray, List.set_cons_zero, List.set_cons_succ]
        refine wpAny_done (by kernel_rfl) ?_ _
        have hb6 : Blk W6 g1 (dcells (d.spoil n x)) 47 := hb6
        have hb26 := hk25.kept hg6 (by have := HG.out; simp; omega)
        have HG6 := Lib.hid (grown_new hG5 hg6 (by rintro _ ⟨⟩; exact HG.out.2.1))
        clear hk5 hk25 hG5 hg6 hz6 hg5 hbb5 c35 c3 hb1 hb2
        go_wp2_with (first | ((with_reducible refine law_loadw g1 _ _ _ ?_ hb6 hu htd ?_ ?_); rfl; exact Try.sdslab) |
          ((with_reducible refine law_storew g2 (dcells (d.spoil n x)) _ _ ?_ ?_ hb26 ?_ ?_ ?_ ?_); rfl; rfl; rfl; exact dcells_one _; exact Try.sdslab))
        intro W8 hb8 hg8 hz8
        go_wp2_with fail
        refine bodyPost_ret (results_row2 rfl _ _ g2 47 _ _ _ rfl hb8 hu htd Try.sdslab _ rfl) rfl ?_
        exact ⟨by rw [HS.out.1]; rfl, grown_new HG6.out hg8 (by rintro _ ⟨⟩; exact HG.out.2.2)⟩
    · refine step_load1 (some 27) rfl rfl rfl ⟨g1, 3, none⟩ (vs d.bytes) _ rfl c3 Try.nstr rfl ?_
      refine hK _ _ ?_
      clear hK K
      simp only [Act.put, List.setIfInBounds_toArray, List.set_cons_zero, List.set_cons_succ]
      refine any_take 12 (some 30) (v := vs (d.bytes.drop (n + 1))) rfl rfl (by kernel_rfl) (by kernel_rfl) (by kernel_rfl) (fun _ _ _ h => h) ?_ ?_
      · exact yields_of (yieldsIf_ssuffix rfl rfl d.bytes (n + 1) rfl rfl (by omega) Try.ustr)
      simp only [Act.put, List.setIfInBounds_toArray, List.set_cons_zero, List.set_cons_succ]
      refine wpAny_ready (rs := [5]) (by kernel_rfl) (by simp) ?_
      refine AllReady.cons rfl (fun K hK => ?_) AllReady.nil
      refine step_bslice (some 23) rfl rfl rfl 5 [vb x] Try.ubytes Try.zu8 (by omega) rfl (by omega) (by intro v hv; rw [List.mem_singleton.1 hv]; rfl) rfl ?_
      intro W5 hb5 hg5 hz5
      have hbb5 : BytesAt W5 (.slice (some ⟨W2.drew.heap.size, 0, none⟩) 1 1) [x] := Blk.bytes (l := [x]) (t := 5) hb5 1
      have hk5 := (hb1.kept (grown_drew W2 none) (by simp)).kept hg5 (by simp)
      have hk25 := (hb2.kept (grown_drew W2 none) (by simp)).kept hg5 (by simp)
      have hG5 := grown_trans (grown_trans HG2.out (grown_drew W2 none)) hg5
      have c35 := (dblk_cells hk5).2.2.2
      clear hb5 hz5
      refine hK _ _ ?_
      clear hK K
      simp only [Act.put, List.setIfInBounds_toArray, List.set_cons_zero, List.set_cons_succ]
      refine wpAny_ready (rs := [6]) (by kernel_rfl) (by simp) ?_
      refine AllReady.cons rfl (fun K hK => ?_) AllReady.nil
      refine gstep_bstring (some 24) rfl rfl rfl _ [x] 5 rfl hbb5 Try.ubytes Try.uu8 Try.ustr ?_
      refine hK _ _ ?_
      clear hK K
      simp only [Act.put, List.setIfInBounds_toArray, List.set_cons_zero, List.set_cons_succ]
      refine any_take 7 (some 25) (v := vs (d.bytes.take n ++ [x])) rfl rfl (by kernel_rfl) (by kernel_rfl) (by kernel_rfl) (fun _ _ _ h => h) ?_ ?_
      · exact yields_of (yieldsIf_sadd rfl rfl (d.bytes.take n) [x] rfl rfl (by kernel_rfl) HBL.out.1)
      simp only [Act.put, List.setIfInBounds_toArray, List.set_cons_zero, List.set_cons_succ]
      refine any_take 13 (some 31) (v := vs (d.bytes.take n ++ [x] ++ d.bytes.drop (n + 1))) rfl rfl (by kernel_rfl) (by kernel_rfl) (by kernel_rfl) (fun _ _ _ h => h) ?_ ?_
      · exact yields_of (yieldsIf_sadd rfl rfl (d.bytes.take n ++ [x]) (d.bytes.drop (n + 1)) rfl rfl (by kernel_rfl) HBL.out.2)
      simp only [Act.put, List.setIfInBounds_toArray, List.set_cons_zero, List.set_cons_succ]
      refine any_take 14 (some 32) (v := ?_) rfl rfl (by kernel_rfl) (by kernel_rfl) (by kernel_rfl) (fun _ _ _ h => h) (Or.inl ⟨by rfl, ?_⟩) ?_
      rotate_left
      · intro w
        go_simp
        try (with_reducible rfl)
      simp only [Act.put, List.setIfInBounds_toArray, List.set_cons_zero, List.set_cons_succ]
      refine wpAny_ready (rs := [15]) (by kernel_rfl) (by simp) ?_
      refine AllReady.cons rfl (fun K hK => ?_) AllReady.nil
      refine step_store1 none rfl rfl rfl g1 3 (vs (d.bytes.take n ++ [x] ++ d.bytes.drop (n + 1))) _ _ rfl rfl hk5 (show 3 < 4 by omega) rfl Try.sstr ?_
      intro W6 hb6 hg6 hz6
      rw [HS.out.2] at hb6
      refine hK _ _ ?_
      clear hK K
      simp only [Act.put, List.setIfInBounds_toArray, List.set_cons_zero, List.set_cons_succ]
      refine wpAny_done (by kernel_rfl) ?_ _
      have hb6 : Blk W6 g1 (dcells (d.spoil n x)) 47 := hb6
      have hb26 := hk25.kept hg6 (by have := HG.out; simp; omega)
      have HG6 := Lib.hid (grown_new hG5 hg6 (by rintro _ ⟨⟩; exact HG.out.2.1))
      clear hk5 hk25 hG5 hg6 hz6 hg5 hbb5 c35 c3 hb1 hb2
      go_wp2_with (first | ((with_reducible refine law_loadw g1 _ _ _ ?_ hb6 hu htd ?_ ?_); rfl; exact Try.sdslab) |
        ((with_reducible refine law_storew g2 (dcells (d.spoil n x)) _ _ ?_ ?_ hb26 ?_ ?_ ?_ ?_); rfl; rfl; rfl; exact dcells_one _; exact Try.sdslab))
      intro W8 hb8 hg8 hz8
      go_wp2_with fail
      refine bodyPost_ret (results_row2 rfl _ _ g2 47 _ _ _ rfl hb8 hu htd Try.sdslab _ rfl) rfl ?_
      exact ⟨by rw [HS.out.1]; rfl, grown_new HG6.out hg8 (by rintro _ ⟨⟩; exact HG.out.2.2)⟩
  · refine step_bslice (some 23) rfl rfl rfl 5 [vb x] Try.ubytes Try.zu8 (by omega) rfl (by omega) (by intro v hv; rw [List.mem_singleton.1 hv]; rfl) rfl ?_
    intro W5 hb5 hg5 hz5
    have hbb5 : BytesAt W5 (.slice (some ⟨W2.drew.heap.size, 0, none⟩) 1 1) [x] := Blk.bytes (l := [x]) (t := 5) hb5 1
    have hk5 := (hb1.kept (grown_drew W2 none) (by simp)).kept hg5 (by simp)
    have hk25 := (hb2.kept (grown_drew W2 none) (by simp)).kept hg5 (by simp)
    have hG5 := grown_trans (grown_trans HG2.out (grown_drew W2 none)) hg5
    have c35 := (dblk_cells hk5).2.2.2
    clear hb5 hz5
    refine hK _ _ ?_
    clear hK K
    simp only [Act.put, List.setIfInBounds_toArray, List.set_cons_zero, List.set_cons_succ]
    refine wpAny_ready (rs := [1, 6, 9]) (by kernel_rfl) (by simp) ?_
    refine AllReady.cons rfl (fun K hK => ?_) (AllReady.cons rfl (fun K hK => ?_) (AllReady.cons rfl (fun K hK => ?_) AllReady.nil))
    · refine step_load1 (some 19) rfl rfl rfl ⟨g1, 3, none⟩ (vs d.bytes) _ rfl c35 Try.nstr rfl ?_
      refine hK _ _ ?_
      clear hK K
      simp only [Act.put, List.setIfInBounds_toArray, List.set_cons_zero, List.set_cons_succ]
      refine any_take 3 (some 21) (v := vs (d.bytes.take n)) rfl rfl (by kernel_rfl) (by kernel_rfl) (by kernel_rfl) (fun _ _ _ h => h) ?_ ?_
      · exact yields_of (yieldsIf_sprefix rfl rfl d.bytes n rfl rfl (by omega) Try.ustr)
      simp only [Act.put, List.setIfInBounds_toArray, List.set_cons_zero, List.set_cons_succ]
      refine wpAny_ready (rs := [6, 9]) (by kernel_rfl) (by simp) ?_
      refine AllReady.cons rfl (fun K hK => ?_) (AllReady.cons rfl (fun K hK => ?_) AllReady.nil)
      · refine gstep_bstring (some 24) rfl rfl rfl _ [x] 5 rfl hbb5 Try.ubytes Try.uu8 Try.ustr ?_
        refine hK _ _ ?_
        clear hK K
        simp only [Act.put, List.setIfInBounds_toArray, List.set_cons_zero, List.set_cons_succ]
        refine any_take 7 (some 25) (v := vs (d.bytes.take n ++ [x])) rfl rfl (by kernel_rfl) (by kernel_rfl) (by kernel_rfl) (fun _ _ _ h => h) ?_ ?_
        · exact yields_of (yieldsIf_sadd rfl rfl (d.bytes.take n) [x] rfl rfl (by kernel_rfl) HBL.out.1)
        simp only [Act.put, List.setIfInBounds_toArray, List.set_cons_zero, List.set_cons_succ]
        refine wpAny_ready (rs := [9]) (by kernel_rfl) (by simp) ?_
        refine AllReady.cons rfl (fun K hK => ?_) AllReady.nil
        refine step_load1 (some 27) rfl rfl rfl ⟨g1, 3, none⟩ (vs d.bytes) _ rfl c35 Try.nstr rfl ?_
        refine hK _ _ ?_
        clear hK K
        simp only [Act.put, List.setIfInBounds_toArray, List.set_cons_zero, List.set_cons_succ]
        refine any_take 12 (some 30) (v := vs (d.bytes.drop (n + 1))) rfl rfl (by kernel_rfl) (by kernel_rfl) (by kernel_rfl) (fun _ _ _ h => h) ?_ ?_
        · exact yields_of (yieldsIf_ssuffix rfl rfl d.bytes (n + 1) rfl rfl (by omega) Try.ustr)
        simp only [Act.put, List.setIfInBounds_toArray, List.set_cons_zero, List.set_cons_succ]
        refine any_take 13 (some 31) (v := vs (d.bytes.take n ++ [x] ++ d.bytes.drop (n + 1))) rfl rfl (by kernel_rfl) (by kernel_rfl) (by kernel_rfl) (fun _ _ _ h => h) ?_ ?_
        · exact yields_of (yieldsIf_sadd rfl rfl (d.bytes.take n ++ [x]) (d.bytes.drop (n + 1)) rfl rfl (by kernel_rfl) HBL.out.2)
        simp only [Act.put, List.setIfInBounds_toArray, List.set_cons_zero, List.set_cons_succ]
        refine any_take 14 (some 32) (v := ?_) rfl rfl (by kernel_rfl) (by kernel_rfl) (by kernel_rfl) (fun _ _ _ h => h) (Or.inl ⟨by rfl, ?_⟩) ?_
        rotate_left
        · intro w
          go_simp
          try (with_reducible rfl)
        simp only [Act.put, List.setIfInBounds_toArray, List.set_cons_zero, List.set_cons_succ]
        refine wpAny_ready (rs := [15]) (by kernel_rfl) (by simp) ?_
        refine AllReady.cons rfl (fun K hK => ?_) AllReady.nil
        refine step_store1 none rfl rfl rfl g1 3 (vs (d.bytes.take n ++ [x] ++ d.bytes.drop (n + 1))) _ _ rfl rfl hk5 (show 3 < 4 by omega) rfl Try.sstr ?_
        intro W6 hb6 hg6 hz6
        rw [HS.out.2] at hb6
        refine hK _ _ ?_
        clear hK K
        simp only [Act.put, List.setIfInBounds_toArray, List.set_cons_zero, List.set_cons_succ]
        refine wpAny_done (by kernel_rfl) ?_ _
        have hb6 : Blk W6 g1 (dcells (d.spoil n x)) 47 := hb6
        have hb26 := hk25.kept hg6 (by have := HG.out; simp; omega)
        have HG6 := Lib.hid (grown_new hG5 hg6 (by rintro _ ⟨⟩; exact HG.out.2.1))
        clear hk5 hk25 hG5 hg6 hz6 hg5 hbb5 c35 c3 hb1 hb2
        go_wp2_with (first | ((with_reducible refine law_loadw g1 _ _ _ ?_ hb6 hu htd ?_ ?_); rfl; exact Try.sdslab) |
          ((with_reducible refine law_storew g2 (dcells (d.spoil n x)) _ _ ?_ ?_ hb26 ?_ ?_ ?_ ?_); rfl; rfl; rfl; exact dcells_one _; exact Try.sdslab))
        intro W8 hb8 hg8 hz8
        go_wp2_with fail
        refine bodyPost_ret (results_row2 rfl _ _ g2 47 _ _ _ rfl hb8 hu htd Try.sdslab _ rfl) rfl ?_
        exact ⟨by rw [HS.out.1]; rfl, grown_new HG6.out hg8 (by rintro _ ⟨⟩; exact HG.out.2.2)⟩
      · refine step_load1 (some 27) rfl rfl rfl ⟨g1, 3, none⟩ (vs d.bytes) _ rfl c35 Try.nstr rfl ?_
        refine hK _ _ ?_
        clear hK K
        simp only [Act.put, List.setIfInBounds_toArray, List.set_cons_zero, List.set_cons_succ]
        refine any_take 12 (some 30) (v := vs (d.bytes.drop (n + 1))) rfl rfl (by kernel_rfl) (by kernel_rfl) (by kernel_rfl) (fun _ _ _ h => h) ?_ ?_
        · exact yields_of (yieldsIf_ssuffix rfl rfl d.bytes (n + 1) rfl rfl (by omega) Try.ustr)
        simp only [Act.put, List.setIfInBounds_toArray, List.set_cons_zero, List.set_cons_succ]
        refine wpAny_ready (rs := [6]) (by kernel_rfl) (by simp) ?_
        refine AllReady.cons rfl (fun K hK => ?_) AllReady.nil
        refine gstep_bstring (some 24) rfl rfl rfl _ [x] 5 rfl hbb5 Try.ubytes Try.uu8 Try.ustr ?_
        refine hK _ _ ?_
        clear hK K
        simp only [Act.put, List.setIfInBounds_toArray, List.set_cons_zero, List.set_cons_succ]
        refine any_take 7 (some 25) (v := vs (d.bytes.take n ++ [x])) rfl rfl (by kernel_rfl) (by kernel_rfl) (by kernel_rfl) (fun _ _ _ h => h) ?_ ?_
        · exact yields_of (yieldsIf_sadd rfl rfl (d.bytes.take n) [x] rfl rfl (by kernel_rfl) HBL.out.1)
        simp only [Act.put, List.setIfInBounds_toArray, List.set_cons_zero, List.set_cons_succ]
        refine any_take 13 (some 31) (v := vs (d.bytes.take n ++ [x] ++ d.bytes.drop (n + 1))) rfl rfl (by kernel_rfl) (by kernel_rfl) (by kernel_rfl) (fun _ _ _ h => h) ?_ ?_
        · exact yields_of (yieldsIf_sadd rfl rfl (d.bytes.take n ++ [x]) (d.bytes.drop (n + 1)) rfl rfl (by kernel_rfl) HBL.out.2)
        simp only [Act.put, List.setIfInBounds_toArray, List.set_cons_zero, List.set_cons_succ]
        refine any_take 14 (some 32) (v := ?_) rfl rfl (by kernel_rfl) (by kernel_rfl) (by kernel_rfl) (fun _ _ _ h => h) (Or.inl ⟨by rfl, ?_⟩) ?_
        rotate_left
        · intro w
          go_simp
          try (with_reducible rfl)
        simp only [Act.put, List.setIfInBounds_toArray, List.set_cons_zero, List.set_cons_succ]
        refine wpAny_ready (rs := [15]) (by kernel_rfl) (by simp) ?_
        refine AllReady.cons rfl (fun K hK => ?_) AllReady.nil
        refine step_store1 none rfl rfl rfl g1 3 (vs (d.bytes.take n ++ [x] ++ d.bytes.drop (n + 1))) _ _ rfl rfl hk5 (show 3 < 4 by omega) rfl Try.sstr ?_
        intro W6 hb6 hg6 hz6
        rw [HS.out.2] at hb6
        refine hK _ _ ?_
        clear hK K
        simp only [Act.put, List.setIfInBounds_toArray, List.set_cons_zero, List.set_cons_succ]
        refine wpAny_done (by kernel_rfl) ?_ _
        have hb6 : Blk W6 g1 (dcells (d.spoil n x)) 47 := hb6
        have hb26 := hk25.kept hg6 (by have := HG.out; simp; omega)
        have HG6 := Lib.hid (grown_new hG5 hg6 (by rintro _ ⟨⟩; exact HG.out.2.1))
        clear hk5 hk25 hG5 hg6 hz6 hg5 hbb5 c35 c3 hb1 hb2
        go_wp2_with (first | ((with_reducible refine law_loadw g1 _ _ _ ?_ hb6 hu htd ?_ ?_); rfl; exact Try.sdslab) |
          ((with_reducible refine law_storew g2 (dcells (d.spoil n x)) _ _ ?_ ?_ hb26 ?_ ?_ ?_ ?_); rfl; rfl; rfl; exact dcells_one _; exact Try.sdslab))
        intro W8 hb8 hg8 hz8
        go_wp2_with fail
        refine bodyPost_ret (results_row2 rfl _ _ g2 47 _ _ _ rfl hb8 hu htd Try.sdslab _ rfl) rfl ?_
        exact ⟨by rw [HS.out.1]; rfl, grown_new HG6.out hg8 (by rintro _ ⟨⟩; exact HG.out.2.2)⟩
    · refine gstep_bstring (some 24) rfl rfl rfl _ [x] 5 rfl hbb5 Try.ubytes Try.uu8 Try.ustr ?_
      refine hK _ _ ?_
      clear hK K
      simp only [Act.put, List.setIfInBounds_toArray, List.set_cons_zero, List.set_cons_succ]
      refine wpAny_ready (rs := [1, 9]) (by kernel_rfl) (by simp) ?_
      refine AllReady.cons rfl (fun K hK => ?_) (AllReady.cons rfl (fun K hK => ?_) AllReady.nil)
      · refine step_load1 (some 19) rfl rfl rfl ⟨g1, 3, none⟩ (vs d.bytes) _ rfl c35 Try.nstr rfl ?_
        refine hK _ _ ?_
        clear hK K
        simp only [Act.put, List.setIfInBounds_toArray, List.set_cons_zero, List.set_cons_succ]
        refine any_take 3 (some 21) (v := vs (d.bytes.take n)) rfl rfl (by kernel_rfl) (by kernel_rfl) (by kernel_rfl) (fun _ _ _ h => h) ?_ ?_
        · exact yields_of (yieldsIf_sprefix rfl rfl d.bytes n rfl rfl (by omega) Try.ustr)
        simp only [Act.put, List.setIfInBounds_toArray, List.set_cons_zero, List.set_cons_succ]
        refine any_take 7 (some 25) (v := vs (d.bytes.take n ++ [x])) rfl rfl (by kernel_rfl) (by kernel_rfl) (by kernel_rfl) (fun _ _ _ h => h) ?_ ?_
        · exact yields_of (yieldsIf_sadd rfl rfl (d.bytes.take n) [x] rfl rfl (by kernel_rfl) HBL.out.1)
        simp only [Act.put, List.setIfInBounds_toArray, List.set_cons_zero, List.set_cons_succ]
        refine wpAny_ready (rs := [9]) (by kernel_rfl) (by simp) ?_
        refine AllReady.cons rfl (fun K hK => ?_) AllReady.nil
        refine step_load1 (some 27) rfl rfl rfl ⟨g1, 3, none⟩ (vs d.bytes) _ rfl c35 Try.nstr rfl ?_
        refine hK _ _ ?_
        clear hK K
        simp only [Act.put, List.setIfInBounds_toArray, List.set_cons_zero, List.set_cons_succ]
        refine any_take 12 (some 30) (v := vs (d.bytes.drop (n + 1))) rfl rfl (by kernel_rfl) (by kernel_rfl) (by kernel_rfl) (fun _ _ _ h => h) ?_ ?_
        · exact yields_of (yieldsIf_ssuffix rfl rfl d.bytes (n + 1) rfl rfl (by omega) Try.ustr)
        simp only [Act.put, List.setIfInBounds_toArray, List.set_cons_zero, List.set_cons_succ]
        refine any_take 13 (some 31) (v := vs (d.bytes.take n ++ [x] ++ d.bytes.drop (n + 1))) rfl rfl (by kernel_rfl) (by kernel_rfl) (by kernel_rfl) (fun _ _ _ h => h) ?_ ?_
        · exact yields_of (yieldsIf_sadd rfl rfl (d.bytes.take n ++ [x]) (d.bytes.drop (n + 1)) rfl rfl (by kernel_rfl) HBL.out.2)
        simp only [Act.put, List.setIfInBounds_toArray, List.set_cons_zero, List.set_cons_succ]
        refine any_take 14 (some 32) (v := ?_) rfl rfl (by kernel_rfl) (by kernel_rfl) (by kernel_rfl) (fun _ _ _ h => h) (Or.inl ⟨by rfl, ?_⟩) ?_
        rotate_left
        · intro w
          go_simp
          try (with_reducible rfl)
        simp only [Act.put, List.setIfInBounds_toArray, List.set_cons_zero, List.set_cons_succ]
        refine wpAny_ready (rs := [15]) (by kernel_rfl) (by simp) ?_
        refine AllReady.cons rfl (fun K hK => ?_) AllReady.nil
        refine step_store1 none rfl rfl rfl g1 3 (vs (d.bytes.take n ++ [x] ++ d.bytes.drop (n + 1))) _ _ rfl rfl hk5 (show 3 < 4 by omega) rfl Try.sstr ?_
        intro W6 hb6 hg6 hz6
        rw [HS.out.2] at hb6
        refine hK _ _ ?_
        clear hK K
        simp only [Act.put, List.setIfInBounds_toArray, List.set_cons_zero, List.set_cons_succ]
        refine wpAny_done (by kernel_rfl) ?_ _
        have hb6 : Blk W6 g1 (dcells (d.spoil n x)) 47 := hb6
        have hb26 := hk25.kept hg6 (by have := HG.out; simp; omega)
        have HG6 := Lib.hid (grown_new hG5 hg6 (by rintro _ ⟨⟩; exact HG.out.2.1))
        clear hk5 hk25 hG5 hg6 hz6 hg5 hbb5 c35 c3 hb1 hb2
        go_wp2_with (first | ((with_reducible refine law_loadw g1 _ _ _ ?_ hb6 hu htd ?_ ?_); rfl; exact Try.sdslab) |
          ((with_reducible refine law_storew g2 (dcells (d.spoil n x)) _ _ ?_ ?_ hb26 ?_ ?_ ?_ ?_); rfl; rfl; rfl; exact dcells_one _; exact Try.sdslab))
        intro W8 hb8 hg8 hz8
        go_wp2_with fail
        refine bodyPost_ret (results_row2 rfl _ _ g2 47 _ _ _ rfl hb8 hu htd Try.sdslab _ rfl) rfl ?_
        exact ⟨by rw [HS.out.1]; rfl, grown_new HG6.out hg8 (by rintro _ ⟨⟩; exact HG.out.2.2)⟩
      · refine step_load1 (some 27) rfl rfl rfl ⟨g1, 3, none⟩ (vs d.bytes) _ rfl c35 Try.nstr rfl ?_
        refine hK _ _ ?_
        clear hK K
        simp only [Act.put, List.setIfInBounds_toArray, List.set_cons_zero, List.set_cons_succ]
        refine any_take 12 (some 30) (v := vs (d.bytes.drop (n + 1))) rfl rfl (by kernel_rfl) (by kernel_rfl) (by kernel_rfl) (fun _ _ _ h => h) ?_ ?_
        · exact yields_of (yieldsIf_ssuffix rfl rfl d.bytes (n + 1) rfl rfl (by omega) Try.ustr)
        simp only [Act.put, List.setIfInBounds_toArray, List.set_cons_zero, List.set_cons_succ]
        refine wpAny_ready (rs := [1]) (by kernel_rfl) (by simp) ?_
        refine AllReady.cons rfl (fun K hK => ?_) AllReady.nil
        refine step_load1 (some 19) rfl rfl rfl ⟨g1, 3, none⟩ (vs d.bytes) _ rfl c35 Try.nstr rfl ?_
        refine hK _ _ ?_
        clear hK K
        simp only [Act.put, List.setIfInBounds_toArray, List.set_cons_zero, List.set_cons_succ]
        refine any_take 3 (some 21) (v := vs (d.bytes.take n)) rfl rfl (by kernel_rfl) (by kernel_rfl) (by kernel_rfl) (fun _ _ _ h => h) ?_ ?_
        · exact yields_of (yieldsIf_sprefix rfl rfl d.bytes n rfl rfl (by omega) Try.ustr)
        simp only [Act.put, List.setIfInBounds_toArray, List.set_cons_zero, List.set_cons_succ]
        refine any_take 7 (some 25) (v := vs (d.bytes.take n ++ [x])) rfl rfl (by kernel_rfl) (by kernel_rfl) (by kernel_rfl) (fun _ _ _ h => h) ?_ ?_
        · exact yields_of (yieldsIf_sadd rfl rfl (d.bytes.take n) [x] rfl rfl (by kernel_rfl) HBL.out.1)
        simp only [Act.put, List.setIfInBounds_toArray, List.set_cons_zero, List.set_cons_succ]
        refine any_take 13 (some 31) (v := vs (d.bytes.take n ++ [x] ++ d.bytes.drop (n + 1))) rfl rfl (by kernel_rfl) (by kernel_rfl) (by kernel_rfl) (fun _ _ _ h => h) ?_ ?_
        · exact yields_of (yieldsIf_sadd rfl rfl (d.bytes.take n ++ [x]) (d.bytes.drop (n + 1)) rfl rfl (by kernel_rfl) HBL.out.2)
        simp only [Act.put, List.setIfInBounds_toArray, List.set_cons_zero, List.set_cons_succ]
        refine any_take 14 (some 32) (v := ?_) rfl rfl (by kernel_rfl) (by kernel_rfl) (by kernel_rfl) (fun _ _ _ h => h) (Or.inl ⟨by rfl, ?_⟩) ?_
        rotate_left
        · intro w
          go_simp
          try (with_reducible rfl)
        simp only [Act.put, List.setIfInBounds_toArray, List.set_cons_zero, List.set_cons_succ]
        refine wpAny_ready (rs := [15]) (by kernel_rfl) (by simp) ?_
        refine AllReady.cons rfl (fun K hK => ?_) AllReady.nil
        refine step_store1 none rfl rfl rfl g1 3 (vs (d.bytes.take n ++ [x] ++ d.bytes.drop (n + 1))) _ _ rfl rfl hk5 (show 3 < 4 by omega) rfl Try.sstr ?_
        intro W6 hb6 hg6 hz6
        rw [HS.out.2] at hb6
        refine hK _ _ ?_
        clear hK K
        simp only [Act.put, List.setIfInBounds_toArray, List.set_cons_zero, List.set_cons_succ]
        refine wpAny_done (by kernel_rfl) ?_ _
        have hb6 : Blk W6 g1 (dcells (d.spoil n x)) 47 := hb6
        have hb26 := hk25.kept hg6 (by have := HG.out; simp; omega)
        have HG6 := Lib.hid (grown_new hG5 hg6 (by rintro _ ⟨⟩; exact HG.out.2.1))
        clear hk5 hk25 hG5 hg6 hz6 hg5 hbb5 c35 c3 hb1 hb2
        go_wp2_with (first | ((with_reducible refine law_loadw g1 _ _ _ ?_ hb6 hu htd ?_ ?_); rfl; exact Try.sdslab) |
          ((with_reducible refine law_storew g2 (dcells (d.spoil n x)) _ _ ?_ ?_ hb26 ?_ ?_ ?_ ?_); rfl; rfl; rfl; exact dcells_one _; exact Try.sdslab))
        intro W8 hb8 hg8 hz8
        go_wp2_with fail
        refine bodyPost_ret (results_row2 rfl _ _ g2 47 _ _ _ rfl hb8 hu htd Try.sdslab _ rfl) rfl ?_
        exact ⟨by rw [HS.out.1]; rfl, grown_new HG6.out hg8 (by rintro _ ⟨⟩; exact HG.out.2.2)⟩
    · refine step_load1 (some 27) rfl rfl rfl ⟨g1, 3, none⟩ (vs d.bytes) _ rfl c35 Try.nstr rfl ?_
      refine hK _ _ ?_
      clear hK K
      simp only [Act.put, List.setIfInBounds_toArray, List.set_cons_zero, List.set_cons_succ]
      refine any_take 12 (some 30) (v := vs (d.bytes.drop (n + 1))) rfl rfl (by kernel_rfl) (by kernel_rfl) (by kernel_rfl) (fun _ _ _ h => h) ?_ ?_
      · exact yields_of (yieldsIf_ssuffix rfl rfl d.bytes (n + 1) rfl rfl (by omega) Try.ustr)
      simp only [Act.put, List.setIfInBounds_toArray, List.set_cons_zero, List.set_cons_succ]
      refine wpAny_ready (rs := [1, 6]) (by kernel_rfl) (by simp) ?_
      refine AllReady.cons rfl (fun K hK => ?_) (AllReady.cons rfl (fun K hK => ?_) AllReady.nil)
      · refine step_load1 (some 19) rfl rfl rfl ⟨g1, 3, none⟩ (vs d.bytes) _ rfl c35 Try.nstr rfl ?_
        refine hK _ _ ?_
        clear hK K
        simp only [Act.put, List.setIfInBounds_toArray, List.set_cons_zero, List.set_cons_succ]
        refine any_take 3 (some 21) (v := vs (d.bytes.take n)) rfl rfl (by kernel_rfl) (by kernel_rfl) (by kernel_rfl) (fun _ _ _ h => h) ?_ ?_
        · exact yields_of (yieldsIf_sprefix rfl rfl d.bytes n rfl rfl (by omega) Try.ustr)
        simp only [Act.put, List.setIfInBounds_toArray, List.set_cons_zero, List.set_cons_succ]
        refine wpAny_ready (rs := [6]) (by kernel_rfl) (by simp) ?_
        refine AllReady.cons rfl (fun K hK => ?_) AllReady.nil
        refine gstep_bstring (some 24) rfl rfl rfl _ [x] 5 rfl hbb5 Try.ubytes Try.uu8 Try.ustr ?_
        refine hK _ _ ?_
        clear hK K
        simp only [Act.put, List.setIfInBounds_toArray, List.set_cons_zero, List.set_cons_succ]
        refine any_take 7 (some 25) (v := vs (d.bytes.take n ++ [x])) rfl rfl (by kernel_rfl) (by kernel_rfl) (by kernel_rfl) (fun _ _ _ h => h) ?_ ?_
        · exact yields_of (yieldsIf_sadd rfl rfl (d.bytes.take n) [x] rfl rfl (by kernel_rfl) HBL.out.1)
        simp only [Act.put, List.setIfInBounds_toArray, List.set_cons_zero, List.set_cons_succ]
        refine any_take 13 (some 31) (v := vs (d.bytes.take n ++ [x] ++ d.bytes.drop (n + 1))) rfl rfl (by kernel_rfl) (by kernel_rfl) (by kernel_rfl) (fun _ _ _ h => h) ?_ ?_
        · exact yields_of (yieldsIf_sadd rfl rfl (d.bytes.take n ++ [x]) (d.bytes.drop (n + 1)) rfl rfl (by kernel_rfl) HBL.out.2)
        simp only [Act.put, List.setIfInBounds_toArray, List.set_cons_zero, List.set_cons_succ]
        refine any_take 14 (some 32) (v := ?_) rfl rfl (by kernel_rfl) (by kernel_rfl) (by kernel_rfl) (fun _ _ _ h => h) (Or.inl ⟨by rfl, ?_⟩) ?_
        rotate_left
        · intro w
          go_simp
          try (with_reducible rfl)
        simp only [Act.put, List.setIfInBounds_toArray, List.set_cons_zero, List.set_cons_succ]
        refine wpAny_ready (rs := [15]) (by kernel_rfl) (by simp) ?_
        refine AllReady.cons rfl (fun K hK => ?_) AllReady.nil
        refine step_store1 none rfl rfl rfl g1 3 (vs (d.bytes.take n ++ [x] ++ d.bytes.drop (n + 1))) _ _ rfl rfl hk5 (show 3 < 4 by omega) rfl Try.sstr ?_
        intro W6 hb6 hg6 hz6
        rw [HS.out.2] at hb6
        refine hK _ _ ?_
        clear hK K
        simp only [Act.put, List.setIfInBounds_toArray, List.set_cons_zero, List.set_cons_succ]
        refine wpAny_done (by kernel_rfl) ?_ _
        have hb6 : Blk W6 g1 (dcells (d.spoil n x)) 47 := hb6
        have hb26 := hk25.kept hg6 (by have := HG.out; simp; omega)
        have HG6 := Lib.hid (grown_new hG5 hg6 (by rintro _ ⟨⟩; exact HG.out.2.1))
        clear hk5 hk25 hG5 hg6 hz6 hg5 hbb5 c35 c3 hb1 hb2
        go_wp2_with (first | ((with_reducible refine law_loadw g1 _ _ _ ?_ hb6 hu htd ?_ ?_); rfl; exact Try.sdslab) |
          ((with_reducible refine law_storew g2 (dcells (d.spoil n x)) _ _ ?_ ?_ hb26 ?_ ?_ ?_ ?_); rfl; rfl; rfl; exact dcells_one _; exact Try.sdslab))
        intro W8 hb8 hg8 hz8
        go_wp2_with fail
        refine bodyPost_ret (results_row2 rfl _ _ g2 47 _ _ _ rfl hb8 hu htd Try.sdslab _ rfl) rfl ?_
        exact ⟨by rw [HS.out.1]; rfl, grown_new HG6.out hg8 (by rintro _ ⟨⟩; exact HG.out.2.2)⟩
      · refine gstep_bstring (some 24) rfl rfl rfl _ [x] 5 rfl hbb5 Try.ubytes Try.uu8 Try.ustr ?_
        refine hK _ _ ?_
        clear hK K
        simp only [Act.put, List.setIfInBounds_toArray, List.set_cons_zero, List.set_cons_succ]
        refine wpAny_ready (rs := [1]) (by kernel_rfl) (by simp) ?_
        refine AllReady.cons rfl (fun K hK => ?_) AllReady.nil
        refine step_load1 (some 19) rfl rfl rfl ⟨g1, 3, none⟩ (vs d.bytes) _ rfl c35 Try.nstr rfl ?_
        refine hK _ _ ?_
        clear hK K
        simp only [Act.put, List.setIfInBounds_toArray, List.set_cons_zero, List.set_cons_succ]
        refine any_take 3 (some 21) (v := vs (d.bytes.take n)) rfl rfl (by kernel_rfl) (by kernel_rfl) (by kernel_rfl) (fun _ _ _ h => h) ?_ ?_
        · exact yields_of (yieldsIf_sprefix rfl rfl d.bytes n rfl rfl (by omega) Try.ustr)
        simp only [Act.put, List.setIfInBounds_toArray, List.set_cons_zero, List.set_cons_succ]
        refine any_take 7 (some 25) (v := vs (d.bytes.take n ++ [x])) rfl rfl (by kernel_rfl) (by kernel_rfl) (by kernel_rfl) (fun _ _ _ h => h) ?_ ?_
        · exact yields_of (yieldsIf_sadd rfl rfl (d.bytes.take n) [x] rfl rfl (by kernel_rfl) HBL.out.1)
        simp only [Act.put, List.setIfInBounds_toArray, List.set_cons_zero, List.set_cons_succ]
        refine any_take 13 (some 31) (v := vs (d.bytes.take n ++ [x] ++ d.bytes.drop (n + 1))) rfl rfl (by kernel_rfl) (by kernel_rfl) (by kernel_rfl) (fun _ _ _ h => h) ?_ ?_
        · exact yields_of (yieldsIf_sadd rfl rfl (d.bytes.take n ++ [x]) (d.bytes.drop (n + 1)) rfl rfl (by kernel_rfl) HBL.out.2)
        simp only [Act.put, List.setIfInBounds_toArray, List.set_cons_zero, List.set_cons_succ]
        refine any_take 14 (some 32) (v := ?_) rfl rfl (by kernel_rfl) (by kernel_rfl) (by kernel_rfl) (fun _ _ _ h => h) (Or.inl ⟨by rfl, ?_⟩) ?_
        rotate_left
        · intro w
          go_simp
          try (with_reducible rfl)
        simp only [Act.put, List.setIfInBounds_toArray, List.set_cons_zero, List.set_cons_succ]
        refine wpAny_ready (rs := [15]) (by kernel_rfl) (by simp) ?_
        refine AllReady.cons rfl (fun K hK => ?_) AllReady.nil
        refine step_store1 none rfl rfl rfl g1 3 (vs (d.bytes.take n ++ [x] ++ d.bytes.drop (n + 1))) _ _ rfl rfl hk5 (show 3 < 4 by omega) rfl Try.sstr ?_
        intro W6 hb6 hg6 hz6
        rw [HS.out.2] at hb6
        refine hK _ _ ?_
        clear hK K
        simp only [Act.put, List.setIfInBounds_toArray, List.set_cons_zero, List.set_cons_succ]
        refine wpAny_done (by kernel_rfl) ?_ _
        have hb6 : Blk W6 g1 (dcells (d.spoil n x)) 47 := hb6
        have hb26 := hk25.kept hg6 (by have := HG.out; simp; omega)
        have HG6 := Lib.hid (grown_new hG5 hg6 (by rintro _ ⟨⟩; exact HG.out.2.1))
        clear hk5 hk25 hG5 hg6 hz6 hg5 hbb5 c35 c3 hb1 hb2
        go_wp2_with (first | ((with_reducible refine law_loadw g1 _ _ _ ?_ hb6 hu htd ?_ ?_); rfl; exact Try.sdslab) |
          ((with_reducible refine law_storew g2 (dcells (d.spoil n x)) _ _ ?_ ?_ hb26 ?_ ?_ ?_ ?_); rfl; rfl; rfl; exact dcells_one _; exact Try.sdslab))
        intro W8 hb8 hg8 hz8
        go_wp2_with fail
        refine bodyPost_ret (results_row2 rfl _ _ g2 47 _ _ _ rfl hb8 hu htd Try.sdslab _ rfl) rfl ?_
        exact ⟨by rw [HS.out.1]; rfl, grown_new HG6.out hg8 (by rintro _ ⟨⟩; exact HG.out.2.2)⟩
  · refine step_load1 (some 27) rfl rfl rfl ⟨g1, 3, none⟩ (vs d.bytes) _ rfl c3 Try.nstr rfl ?_
    refine hK _ _ ?_
    clear hK K
    simp only [Act.put, List.setIfInBounds_toArray, List.set_cons_zero, List.set_cons_succ]
    refine any_take 12 (some 30) (v := vs (d.bytes.drop (n + 1))) rfl rfl (by kernel_rfl) (by kernel_rfl) (by kernel_rfl) (fun _ _ _ h => h) ?_ ?_
    · exact yields_of (yieldsIf_ssuffix rfl rfl d.bytes (n + 1) rfl rfl (by omega) Try.ustr)
    simp only [Act.put, List.setIfInBounds_toArray, List.set_cons_zero, List.set_cons_succ]
    refine wpAny_ready (rs := [1, 5]) (by kernel_rfl) (by simp) ?_
    refine AllReady.cons rfl (fun K hK => ?_) (AllReady.cons rfl (fun K hK => ?_) AllReady.nil)
    · refine step_load1 (some 19) rfl rfl rfl ⟨g1, 3, none⟩ (vs d.bytes) _ rfl c3 Try.nstr rfl ?_
      refine hK _ _ ?_
      clear hK K
      simp only [Act.put, List.setIfInBounds_toArray, List.set_cons_zero, List.set_cons_succ]
      refine any_take 3 (some 21) (v := vs (d.bytes.take n)) rfl rfl (by kernel_rfl) (by kernel_rfl) (by kernel_rfl) (fun _ _ _ h => h) ?_ ?_
      · exact yields_of (yieldsIf_sprefix rfl rfl d.bytes n rfl rfl (by omega) Try.ustr)
      simp only [Act.put, List.setIfInBounds_toArray, List.set_cons_zero, List.set_cons_succ]
      refine wpAny_ready (rs := [5]) (by kernel_rfl) (by simp) ?_
      refine AllReady.cons rfl (fun K hK => ?_) AllReady.nil
      refine step_bslice (some 23) rfl rfl rfl 5 [vb x] Try.ubytes Try.zu8 (by omega) rfl (by omega) (by intro v hv; rw [List.mem_singleton.1 hv]; rfl) rfl ?_
      intro W5 hb5 hg5 hz5
      have hbb5 : BytesAt W5 (.slice (some ⟨W2.drew.heap.size, 0, none⟩) 1 1) [x] := Blk.bytes (l := [x]) (t := 5) hb5 1
      have hk5 := (hb1.kept (grown_drew W2 none) (by simp)).kept hg5 (by simp)
      have hk25 := (hb2.kept (grown_drew W2 none) (by simp)).kept hg5 (by simp)
      have hG5 := grown_trans (grown_trans HG2.out (grown_drew W2 none)) hg5
      have c35 := (dblk_cells hk5).2.2.2
      clear hb5 hz5
      refine hK _ _ ?_
      clear hK K
      simp only [Act.put, List.setIfInBounds_toArray, List.set_cons_zero, List.set_cons_succ]
      refine wpAny_ready (rs := [6]) (by kernel_rfl) (by simp) ?_
      refine AllReady.cons rfl (fun K hK => ?_) AllReady.nil
      refine gstep_bstring (some 24) rfl rfl rfl _ [x] 5 rfl hbb5 Try.ubytes Try.uu8 Try.ustr ?_
      refine hK _ _ ?_
      clear hK K
      simp only [Act.put, List.setIfInBounds_toArray, List.set_cons_zero, List.set_cons_succ]
      refine any_take 7 (some 25) (v := vs (d.bytes.take n ++ [x])) rfl rfl (by kernel_rfl) (by kernel_rfl) (by kernel_rfl) (fun _ _ _ h => h) ?_ ?_
      · exact yields_of (yieldsIf_sadd rfl rfl (d.bytes.take n) [x] rfl rfl (by kernel_rfl) HBL.out.1)
      simp only [Act.put, List.setIfInBounds_toArray, List.set_cons_zero, List.set_cons_succ]
      refine any_take 13 (some 31) (v := vs (d.bytes.take n ++ [x] ++ d.bytes.drop (n + 1))) rfl rfl (by kernel_rfl) (by kernel_rfl) (by kernel_rfl) (fun _ _ _ h => h) ?_ ?_
      · exact yields_of (yieldsIf_sadd rfl rfl (d.bytes.take n ++ [x]) (d.bytes.drop (n + 1)) rfl rfl (by kernel_rfl) HBL.out.2)
      simp only [Act.put, List.setIfInBounds_toArray, List.set_cons_zero, List.set_cons_succ]
      refine any_take 14 (some 32) (v := ?_) rfl rfl (by kernel_rfl) (by kernel_rfl) (by kernel_rfl) (fun _ _ _ h => h) (Or.inl ⟨by rfl, ?_⟩) ?_
      rotate_left
      · intro w
        go_simp
        try (with_reducible rfl)
      simp only [Act.put, List.setIfInBounds_toArray, List.set_cons_zero, List.set_cons_succ]
      refine wpAny_ready (rs := [15]) (by kernel_rfl) (by simp) ?_
      refine AllReady.cons rfl (fun K hK => ?_) AllReady.nil
      refine step_store1 none rfl rfl rfl g1 3 (vs (d.bytes.take n ++ [x] ++ d.bytes.drop (n + 1))) _ _ rfl rfl hk5 (show 3 < 4 by omega) rfl Try.sstr ?_
      intro W6 hb6 hg6 hz6
      rw [HS.out.2] at hb6
      refine hK _ _ ?_
      clear hK K
      simp only [Act.put, List.setIfInBounds_toArray, List.set_cons_zero, List.set_cons_succ]
      refine wpAny_done (by kernel_rfl) ?_ _
      have hb6 : Blk W6 g1 (dcells (d.spoil n x)) 47 := hb6
      have hb26 := hk25.kept hg6 (by have := HG.out; simp; omega)
      have HG6 := Lib.hid (grown_new hG5 hg6 (by rintro _ ⟨⟩; exact HG.out.2.1))
      clear hk5 hk25 hG5 hg6 hz6 hg5 hbb5 c35 c3 hb1 hb2
      go_wp2_with (first | ((with_reducible refine law_loadw g1 _ _ _ ?_ hb6 hu htd ?_ ?_); rfl; exact Try.sdslab) |
        ((with_reducible refine law_storew g2 (dcells (d.spoil n x)) _ _ ?_ ?_ hb26 ?_ ?_ ?_ ?_); rfl; rfl; rfl; exact dcells_one _; exact Try.sdslab))
      intro W8 hb8 hg8 hz8
      go_wp2_with fail
      refine bodyPost_ret (results_row2 rfl _ _ g2 47 _ _ _ rfl hb8 hu htd Try.sdslab _ rfl) rfl ?_
      exact ⟨by rw [HS.out.1]; rfl, grown_new HG6.out hg8 (by rintro _ ⟨⟩; exact HG.out.2.2)⟩
    · refine step_bslice (some 23) rfl rfl rfl 5 [vb x] Try.ubytes Try.zu8 (by omega) rfl (by omega) (by intro v hv; rw [List.mem_singleton.1 hv]; rfl) rfl ?_
      intro W5 hb5 hg5 hz5
      have hbb5 : BytesAt W5 (.slice (some ⟨W2.drew.heap.size, 0, none⟩) 1 1) [x] := Blk.bytes (l := [x]) (t := 5) hb5 1
      have hk5 := (hb1.kept (grown_drew W2 none) (by simp)).kept hg5 (by simp)
      have hk25 := (hb2.kept (grown_drew W2 none) (by simp)).kept hg5 (by simp)
      have hG5 := grown_trans (grown_trans HG2.out (grown_drew W2 none)) hg5
      have c35 := (dblk_cells hk5).2.2.2
      clear hb5 hz5
      refine hK _ _ ?_
      clear hK K
      simp only [Act.put, List.setIfInBounds_toArray, List.set_cons_zero, List.set_cons_succ]
      refine wpAny_ready (rs := [1, 6]) (by kernel_rfl) (by simp) ?_
      refine AllReady.cons rfl (fun K hK => ?_) (AllReady.cons rfl (fun K hK => ?_) AllReady.nil)
      · refine step_load1 (some 19) rfl rfl rfl ⟨g1, 3, none⟩ (vs d.bytes) _ rfl c35 Try.nstr rfl ?_
        refine hK _ _ ?_
        clear hK K
        simp only [Act.put, List.setIfInBounds_toArray, List.set_cons_zero, List.set_cons_succ]
        refine any_take 3 (some 21) (v := vs (d.bytes.take n)) rfl rfl (by kernel_rfl) (by kernel_rfl) (by kernel_rfl) (fun _ _ _ h => h) ?_ ?_
        · exact yields_of (yieldsIf_sprefix rfl rfl d.bytes n rfl rfl (by omega) Try.ustr)
        simp only [Act.put, List.setIfInBounds_toArray, List.set_cons_zero, List.set_cons_succ]
        refine wpAny_ready (rs := [6]) (by kernel_rfl) (by simp) ?_
        refine AllReady.cons rfl (fun K hK => ?_) AllReady.nil
        refine gstep_bstring (some 24) rfl rfl rfl _ [x] 5 rfl hbb5 Try.ubytes Try.uu8 Try.ustr ?_
        refine hK _ _ ?_
        clear hK K
        simp only [Act.put, List.setIfInBounds_toArray, List.set_cons_zero, List.set_cons_succ]
        refine any_take 7 (some 25) (v := vs (d.bytes.take n ++ [x])) rfl rfl (by kernel_rfl) (by kernel_rfl) (by kernel_rfl) (fun _ _ _ h => h) ?_ ?_
        · exact yields_of (yieldsIf_sadd rfl rfl (d.bytes.take n) [x] rfl rfl (by kernel_rfl) HBL.out.1)
        simp only [Act.put, List.setIfInBounds_toArray, List.set_cons_zero, List.set_cons_succ]
        refine any_take 13 (some 31) (v := vs (d.bytes.take n ++ [x] ++ d.bytes.drop (n + 1))) rfl rfl (by kernel_rfl) (by kernel_rfl) (by kernel_rfl) (fun _ _ _ h => h) ?_ ?_
        · exact yields_of (yieldsIf_sadd rfl rfl (d.bytes.take n ++ [x]) (d.bytes.drop (n + 1)) rfl rfl (by kernel_rfl) HBL.out.2)
        simp only [Act.put, List.setIfInBounds_toArray, List.set_cons_zero, List.set_cons_succ]
        refine any_take 14 (some 32) (v := ?_) rfl rfl (by kernel_rfl) (by kernel_rfl) (by kernel_rfl) (fun _ _ _ h => h) (Or.inl ⟨by rfl, ?_⟩) ?_
        rotate_left
        · intro w
          go_simp
          try (with_reducible rfl)
        simp only [Act.put, List.setIfInBounds_toArray, List.set_cons_zero, List.set_cons_succ]
        refine wpAny_ready (rs := [15]) (by kernel_rfl) (by simp) ?_
        refine AllReady.cons rfl (fun K hK => ?_) AllReady.nil
        refine step_store1 none rfl rfl rfl g1 3 (vs (d.bytes.take n ++ [x] ++ d.bytes.drop (n + 1))) _ _ rfl rfl hk5 (show 3 < 4 by omega) rfl Try.sstr ?_
        intro W6 hb6 hg6 hz6
        rw [HS.out.2] at hb6
        refine hK _ _ ?_
        clear hK K
        simp only [Act.put, List.setIfInBounds_toArray, List.set_cons_zero, List.set_cons_succ]
        refine wpAny_done (by kernel_rfl) ?_ _
        have hb6 : Blk W6 g1 (dcells (d.spoil n x)) 47 := hb6
        have hb26 := hk25.kept hg6 (by have := HG.out; simp; omega)
        have HG6 := Lib.hid (grown_new hG5 hg6 (by rintro _ ⟨⟩; exact HG.out.2.1))
        clear hk5 hk25 hG5 hg6 hz6 hg5 hbb5 c35 c3 hb1 hb2
        go_wp2_with (first | ((with_reducible refine law_loadw g1 _ _ _ ?_ hb6 hu htd ?_ ?_); rfl; exact Try.sdslab) |
          ((with_reducible refine law_storew g2 (dcells (d.spoil n x)) _ _ ?_ ?_ hb26 ?_ ?_ ?_ ?_); rfl; rfl; rfl; exact dcells_one _; exact Try.sdslab))
        intro W8 hb8 hg8 hz8
        go_wp2_with fail
        refine bodyPost_ret (results_row2 rfl _ _ g2 47 _ _ _ rfl hb8 hu htd Try.sdslab _ rfl) rfl ?_
        exact ⟨by rw [HS.out.1]; rfl, grown_new HG6.out hg8 (by rintro _ ⟨⟩; exact HG.out.2.2)⟩
      · refine gstep_bstring (some 24) rfl rfl rfl _ [x] 5 rfl hbb5 Try.ubytes Try.uu8 Try.ustr ?_
        refine hK _ _ ?_
        clear hK K
        simp only [Act.put, List.setIfInBounds_toArray, List.set_cons_zero, List.set_cons_succ]
        refine wpAny_ready (rs := [1]) (by kernel_rfl) (by simp) ?_
        refine AllReady.cons rfl (fun K hK => ?_) AllReady.nil
        refine step_load1 (some 19) rfl rfl rfl ⟨g1, 3, none⟩ (vs d.bytes) _ rfl c35 Try.nstr rfl ?_
        refine hK _ _ ?_
        clear hK K
        simp only [Act.put, List.setIfInBounds_toArray, List.set_cons_zero, List.set_cons_succ]
        refine any_take 3 (some 21) (v := vs (d.bytes.take n)) rfl rfl (by kernel_rfl) (by kernel_rfl) (by kernel_rfl) (fun _ _ _ h => h) ?_ ?_
        · exact yields_of (yieldsIf_sprefix rfl rfl d.bytes n rfl rfl (by omega) Try.ustr)
        simp only [Act.put, List.setIfInBounds_toArray, List.set_cons_zero, List.set_cons_succ]
        refine any_take 7 (some 25) (v := vs (d.bytes.take n ++ [x])) rfl rfl (by kernel_rfl) (by kernel_rfl) (by kernel_rfl) (fun _ _ _ h => h) ?_ ?_
        · exact yields_of (yieldsIf_sadd rfl rfl (d.bytes.take n) [x] rfl rfl (by kernel_rfl) HBL.out.1)
        simp only [Act.put, List.setIfInBounds_toArray, List.set_cons_zero, List.set_cons_succ]
        refine any_take 13 (some 31) (v := vs (d.bytes.take n ++ [x] ++ d.bytes.drop (n + 1))) rfl rfl (by kernel_rfl) (by kernel_rfl) (by kernel_rfl) (fun _ _ _ h => h) ?_ ?_
        · exact yields_of (yieldsIf_sadd rfl rfl (d.bytes.take n ++ [x]) (d.bytes.drop (n + 1)) rfl rfl (by kernel_rfl) HBL.out.2)
        simp only [Act.put, List.setIfInBounds_toArray, List.set_cons_zero, List.set_cons_succ]
        refine any_take 14 (some 32) (v := ?_) rfl rfl (by kernel_rfl) (by kernel_rfl) (by kernel_rfl) (fun _ _ _ h => h) (Or.inl ⟨by rfl, ?_⟩) ?_
        rotate_left
        · intro w
          go_simp
          try (with_reducible rfl)
        simp only [Act.put, List.setIfInBounds_toArray, List.set_cons_zero, List.set_cons_succ]
        refine wpAny_ready (rs := [15]) (by kernel_rfl) (by simp) ?_
        refine AllReady.cons rfl (fun K hK => ?_) AllReady.nil
        refine step_store1 none rfl rfl rfl g1 3 (vs (d.bytes.take n ++ [x] ++ d.bytes.drop (n + 1))) _ _ rfl rfl hk5 (show 3 < 4 by omega) rfl Try.sstr ?_
        intro W6 hb6 hg6 hz6
        rw [HS.out.2] at hb6
        refine hK _ _ ?_
        clear hK K
        simp only [Act.put, List.setIfInBounds_toArray, List.set_cons_zero, List.set_cons_succ]
        refine wpAny_done (by kernel_rfl) ?_ _
        have hb6 : Blk W6 g1 (dcells (d.spoil n x)) 47 := hb6
        have hb26 := hk25.kept hg6 (by have := HG.out; simp; omega)
        have HG6 := Lib.hid (grown_new hG5 hg6 (by rintro _ ⟨⟩; exact HG.out.2.1))
        clear hk5 hk25 hG5 hg6 hz6 hg5 hbb5 c35 c3 hb1 hb2
        go_wp2_with (first | ((with_reducible refine law_loadw g1 _ _ _ ?_ hb6 hu htd ?_ ?_); rfl; exact Try.sdslab) |
          ((with_reducible refine law_storew g2 (dcells (d.spoil n x)) _ _ ?_ ?_ hb26 ?_ ?_ ?_ ?_); rfl; rfl; rfl; exact dcells_one _; exact Try.sdslab))
        intro W8 hb8 hg8 hz8
        go_wp2_with fail
        refine bodyPost_ret (results_row2 rfl _ _ g2 47 _ _ _ rfl hb8 hu htd Try.sdslab _ rfl) rfl ?_
        exact ⟨by rw [HS.out.1]; rfl, grown_new HG6.out hg8 (by rintro _ ⟨⟩; exact HG.out.2.2)⟩
end Go.Proofs.Yteicjpjniaohhaa
