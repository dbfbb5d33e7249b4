/- The reference's sum of parts for a purpose, and its link of a record to all ahead of it. -/
import Derived.Test.YteicjpjniaohhaaRText
import Derived.Test.YteicjpjniaohhaaROf
import Derived.Test.YteicjpjniaohhaaSteps2
set_option linter.unusedVariables false
set_option linter.unusedSimpArgs false
namespace Scv
open Go Go.RowKit
/-- a text as a value -/
abbrev vs (l : List UInt8) : Value := .string ⟨l.toArray⟩
/-- a slice of texts -/
def StrsAt (w : World) (v : Value) (ls : List (List UInt8)) : Prop :=
  ∃ ad cap, v = .slice ad ls.length cap ∧ (ls = [] ∨ ∃ b o, ad = some ⟨b, o, none⟩ ∧ ∀ i, i < ls.length → w.cell? ⟨b, o + i, none⟩ = some (vs (ls.getD i [])))
theorem StrsAt.grown {w X : World} {v : Value} {ls : List (List UInt8)} (h : StrsAt w v ls) (hg : w.grownBy X none) : StrsAt X v ls := by
  obtain ⟨ad, cap, hv, hc⟩ := h
  refine ⟨ad, cap, hv, hc.imp id ?_⟩
  rintro ⟨b, o, ha, hi⟩
  exact ⟨b, o, ha, fun i hl => cell_grown hg _ _ (hi i hl)⟩
theorem vs_append (a b : List UInt8) : (.string ((⟨a.toArray⟩ : ByteArray) ++ ⟨b.toArray⟩) : Value) = vs (a ++ b) := congrArg Value.string (str_append a b)
theorem vs_size (l : List UInt8) : (⟨l.toArray⟩ : ByteArray).size = l.length := by simp [ByteArray.size]
section
variable {P : Program} {ops : Array Oper} {a : Act}
/-- one cell is loaded, in each world of S -/
theorem yieldsIf_load1 {S : World → Prop} {ty : TypeId} {x : Operand} {oi : Oper} (hop : oi.op = .load ty x) (hw : Region.wanted oi (yielded ops a.tmps) = true) (p : Addr) (v : Value) (d : TypeDesc)
    (hx : a.eval x = .pointer (some p)) (hc : ∀ w, S w → w.cell? p = some v) (hu : P.underlying ty = some d) (hd : d.isRow = false) : YieldsIf P ops S oi v a :=
  .inl ⟨hw, fun w hS => by
    have hcell := hc w hS
    have hagg : (isAgg ty).run P w = .ok false w := by
      unfold isAgg
      rw [Sem.run_bind, run_underlying hu w]
      cases d <;> simp_all [TypeDesc.isRow]
    unfold execOp
    simp only [hop, hx, Instr.loadAt, Instr.sureAddr, Sem.run_bind, Sem.run_pure, Result.andThen_ok]
    simp [loadVar, Sem.run_bind, hagg, load, Sem.run, hcell]⟩
theorem run_sadd (w : World) (t : TypeId) (l m : List UInt8) (hb : l.length + m.length < 4611686018427387904) : (binOp .add t (vs l) (vs m)).run P w = .ok (vs (l ++ m)) w := by
  have hs : ¬ (((⟨l.toArray⟩ : ByteArray).size + (⟨m.toArray⟩ : ByteArray).size : Nat) : Int) > IntKind.i64.max := by
    rw [vs_size, vs_size]
    have e : IntKind.i64.max = 9223372036854775807 := by decide
    rw [e]; omega
  show (Op.stringOp .add _ _).run P w = _
  unfold Op.stringOp
  simp only [if_neg hs]
  rw [vs_append]
  rfl
/-- two texts in a row, in each world of S -/
theorem yieldsIf_sadd {S : World → Prop} {t r : TypeId} {x y : Operand} {oi : Oper} (hop : oi.op = .binOp .add t x y r) (hw : Region.wanted oi (yielded ops a.tmps) = true) (l m : List UInt8)
    (hx : a.eval x = vs l) (hy : a.eval y = vs m) (hg : P.eqGuardType P.depth t = false) (hb : l.length + m.length < 4611686018427387904) : YieldsIf P ops S oi (vs (l ++ m)) a :=
  .inl ⟨hw, fun w _ => by
    have hr := run_sadd (P := P) w t l m hb
    unfold execOp
    simp only [hop, hx, hy, Sem.run_bind]
    simp [hr, eqGuard]⟩
end
end Scv
namespace Go.Proofs.Yteicjpjniaohhaa
open Go.RowKit Go.Shelf Scv
theorem Try.nstr : Try.prog.underlying 9 = some .string := by kernel_rfl
set_option maxRecDepth 100000 in
set_option maxHeartbeats 4000000 in
theorem rfor_calls (purpose : List UInt8) (v : Value) (ls : List (List UInt8)) (w : World) (hread : StrsAt w v ls) (hp : purpose.length < 1048576) (hP : ls.length < 1048576) (hM : (ls.flatMap sized).length < 134217728) :
    Calls Try.prog 38 #[vs purpose, v] w fun e w' => e = .returned (.agg (u8s (forSum purpose ls))) ∧ w.grownBy w' none := by
  obtain ⟨ad, cap, hv, hcs⟩ := id hread
  subst hv
  have HCS := Lib.hid hcs
  clear hcs hread
  go_enter Try.func38, Try.ntmps38
  go_wp2_with (with_reducible refine law_alloc _ Try.zid ?_)
  intro W1 hb1 hg1 hz1
  obtain ⟨gr, hgr⟩ : ∃ g, g = w.heap.size := ⟨_, rfl⟩
  rw [← hgr] at hb1
  rw [← hgr]
  replace hb1 : Blk W1 gr (u8s (List.replicate 32 0)) 29 := hb1
  have HGR := Lib.hid hgr
  clear hgr hz1
  go_wp2_with fail
  go_loopw [5, 6] (fun s i wr => ∃ k : Nat, k ≤ ls.length ∧ i = .int .i64 k ∧ s = vs (purpose ++ 0 :: (ls.take k).flatMap sized) ∧ Blk wr gr (u8s (List.replicate 32 0)) 29 ∧ w.grownBy wr none) (fun _ i _ => ls.length - (intOf i).toNat)
  case atStart => exact ⟨0, by omega, rfl, (vs_append purpose [0]).trans (by simp), hb1, hg1⟩
  case round =>
    clear hb1 hg1
    obtain ⟨k, hk, rfl, rfl, hB, hG⟩ := hrel
    have HB := Lib.hid (And.intro hB hG)
    clear hB hG
    by_cases hkl : k < ls.length
    · obtain ⟨b, o, hcc⟩ := HCS.out.resolve_left (fun e => by rw [e] at hkl; exact absurd hkl (by simp))
      obtain ⟨rfl, hcells⟩ := hcc
      have cv := cell_grown HB.out.2 _ _ (hcells k hkl)
      obtain ⟨p, hpp⟩ : ∃ p, p = ls.getD k [] := ⟨_, rfl⟩
      rw [← hpp] at cv
      have hpl : p.length < 134217728 := by
        have h1 : (sized p).length ≤ (ls.flatMap sized).length := by
          have hmem : p ∈ ls := by rw [hpp, List.getD_eq_getElem?_getD, List.getElem?_eq_getElem hkl]; exact List.getElem_mem hkl
          exact (List.sublist_flatten_of_mem (List.mem_map.2 ⟨p, hmem, rfl⟩)).length_le
        have h2 : (sized p).length = p.length + 4 := by simp [sized, be32]
        omega
      have HPP := Lib.hid hpp
      obtain ⟨s0, hs0⟩ : ∃ s0, s0 = purpose ++ 0 :: (ls.take k).flatMap sized := ⟨_, rfl⟩
      rw [← hs0]
      have HS0 := Lib.hid hs0
      have hkl' : (k : Int) < ls.length := by omega
      clear hcells hpp hs0
      obtain ⟨n, hn⟩ : ∃ n, n = p.length := ⟨_, rfl⟩
      have hbe : ∀ (W : World) (g : Nat), Blk W g [Value.int .u8 ((n : Int) / 16777216 % 256), .int .u8 ((n : Int) / 65536 % 256), .int .u8 ((n : Int) / 256 % 256), .int .u8 ((n : Int) % 256)].toArray 5 → BytesAt W (.slice (some ⟨g, 0, none⟩) 4 4) (be32 p.length) := by
        intro W g h
        have e : u8s (be32 p.length) = [Value.int .u8 ((n : Int) / 16777216 % 256), .int .u8 ((n : Int) / 65536 % 256), .int .u8 ((n : Int) / 256 % 256), .int .u8 ((n : Int) % 256)].toArray := by
          have hb : ∀ m : Nat, (vb (b8 m)) = .int .u8 ((m : Int) % 256) := fun m => by
            unfold vb b8
            rw [UInt8.toNat_ofNat']; simp only [Int.natCast_emod]; rfl
          rw [← hn]
          simp only [u8s, be32, List.map_cons, List.map_nil, hb, Int.natCast_ediv]; rfl
        rw [← e] at h
        exact h.bytes 4
      have HBE := Lib.hid hbe
      rw [← hn] at hpl
      have hn' : p.length = n := hn.symm
      have q : ∀ d : Int, 0 < d → IntKind.u8.wrap ((IntKind.i64.wrap ((n : Int) / d)).tmod 256) = (n : Int) / d % 256 := fun d hd => by
        have h1 : (0 : Int) ≤ (n : Int) / d := Int.ediv_nonneg (by omega) (by omega)
        have h2 : (n : Int) / d ≤ n := Int.ediv_le_self _ (by omega)
        rw [IntWalk.i64_in _ (by omega), Int.tmod_eq_emod_of_nonneg h1]
        exact IntWalk.u8_in _ (by omega)
      have q0 : IntKind.u8.wrap ((n : Int).tmod 256) = (n : Int) % 256 := by
        rw [Int.tmod_eq_emod_of_nonneg (by omega)]; exact IntWalk.u8_in _ (by omega)
      have HQ := Lib.hid (And.intro (q 16777216 (by omega)) (And.intro (q 65536 (by omega)) (And.intro (q 256 (by omega)) q0)))
      have hln : (be32 p.length).length + p.length < 4611686018427387904 ∧ s0.length + (be32 p.length ++ p).length < 4611686018427387904 := by
        have h1 : (be32 p.length).length = 4 := rfl
        have h2 : s0.length = purpose.length + 1 + ((ls.take k).flatMap sized).length := by rw [HS0.out]; simp; omega
        have h3 : ((ls.take k).flatMap sized).length ≤ (ls.flatMap sized).length := by
          have h4 : (ls.take k).flatMap sized ++ (ls.drop k).flatMap sized = ls.flatMap sized := by rw [← List.flatMap_append, List.take_append_drop]
          rw [← h4, List.length_append]; omega
        rw [List.length_append]
        omega
      have HLN := Lib.hid hln
      clear hn hbe q q0 hln
      go_wp2_with fail
      have hS0 : wr.drew.cell? ⟨b, o + k, none⟩ = some (vs p) := cv
      clear cv
      refine wp_region_held_drew (S := fun w' : World => w'.cell? ⟨b, o + k, none⟩ = some (vs p)) (by kernel_rfl) hS0 (fun _ => ?_)
      refine anyH_take 0 (some 21) (v := ?_) rfl rfl (by kernel_rfl) (by kernel_rfl) (by kernel_rfl) (fun _ _ _ h => h) (Or.inl ⟨by rfl, ?_⟩) hS0 ?_
      rotate_left
      · intro w _
        go_simp
        try (with_reducible rfl)
      simp only [Act.put, List.setIfInBounds_toArray, List.set_cons_zero, List.set_cons_succ]
      refine anyH_take 1 (some 22) (v := ?_) rfl rfl (by kernel_rfl) (by kernel_rfl) (by kernel_rfl) (fun _ _ _ h => h) (Or.inl ⟨by rfl, ?_⟩) hS0 ?_
      rotate_left
      · intro w _
        go_simp
        try (with_reducible rfl)
      simp only [Act.put, List.setIfInBounds_toArray, List.set_cons_zero, List.set_cons_succ]
      refine anyH_take 2 (some 23) (v := ?_) rfl rfl (by kernel_rfl) (by kernel_rfl) (by kernel_rfl) (fun _ _ _ h => h) (Or.inl ⟨by rfl, ?_⟩) hS0 ?_
      rotate_left
      · intro w _
        go_simp
        try (with_reducible rfl)
      simp only [Act.put, List.setIfInBounds_toArray, List.set_cons_zero, List.set_cons_succ]
      refine anyH_take 3 (some 24) (v := ?_) rfl rfl (by kernel_rfl) (by kernel_rfl) (by kernel_rfl) (fun _ _ _ h => h) (Or.inl ⟨by rfl, ?_⟩) hS0 ?_
      rotate_left
      · intro w _
        go_simp
        try (with_reducible rfl)
      simp only [Act.put, List.setIfInBounds_toArray, List.set_cons_zero, List.set_cons_succ]
      refine anyH_take 4 (some 25) (v := ?_) rfl rfl (by kernel_rfl) (by kernel_rfl) (by kernel_rfl) (fun _ _ _ h => h) (Or.inl ⟨by rfl, ?_⟩) hS0 ?_
      rotate_left
      · intro w _
        go_simp
        try (with_reducible rfl)
      simp only [Act.put, List.setIfInBounds_toArray, List.set_cons_zero, List.set_cons_succ]
      refine anyH_take 5 (some 26) (v := ?_) rfl rfl (by kernel_rfl) (by kernel_rfl) (by kernel_rfl) (fun _ _ _ h => h) (Or.inl ⟨by rfl, ?_⟩) hS0 ?_
      rotate_left
      · intro w _
        go_simp
        try (with_reducible rfl)
      simp only [Act.put, List.setIfInBounds_toArray, List.set_cons_zero, List.set_cons_succ]
      refine anyH_take 6 (some 27) (v := ?_) rfl rfl (by kernel_rfl) (by kernel_rfl) (by kernel_rfl) (fun _ _ _ h => h) (Or.inl ⟨by rfl, ?_⟩) hS0 ?_
      rotate_left
      · intro w _
        go_simp
        try (with_reducible rfl)
      simp only [Act.put, List.setIfInBounds_toArray, List.set_cons_zero, List.set_cons_succ]
      refine anyH_take 7 (some 28) (v := ?_) rfl rfl (by kernel_rfl) (by kernel_rfl) (by kernel_rfl) (fun _ _ _ h => h) (Or.inl ⟨by rfl, ?_⟩) hS0 ?_
      rotate_left
      · intro w _
        go_simp
        try (with_reducible rfl)
      simp only [Act.put, List.setIfInBounds_toArray, List.set_cons_zero, List.set_cons_succ]
      refine anyH_take 8 (some 29) (v := ?_) rfl rfl (by kernel_rfl) (by kernel_rfl) (by kernel_rfl) (fun _ _ _ h => h) (Or.inl ⟨by rfl, ?_⟩) hS0 ?_
      rotate_left
      · intro w _
        go_simp
        try (with_reducible rfl)
      simp only [Act.put, List.setIfInBounds_toArray, List.set_cons_zero, List.set_cons_succ]
      refine anyH_take 9 (some 30) (v := ?_) rfl rfl (by kernel_rfl) (by kernel_rfl) (by kernel_rfl) (fun _ _ _ h => h) (Or.inl ⟨by rfl, ?_⟩) hS0 ?_
      rotate_left
      · intro w _
        go_simp
        try (with_reducible rfl)
      simp only [Act.put, List.setIfInBounds_toArray, List.set_cons_zero, List.set_cons_succ]
      refine anyH_take 10 (some 31) (v := ?_) rfl rfl (by kernel_rfl) (by kernel_rfl) (by kernel_rfl) (fun _ _ _ h => h) (Or.inl ⟨by rfl, ?_⟩) hS0 ?_
      rotate_left
      · intro w _
        go_simp
        try (with_reducible rfl)
      simp only [Act.put, List.setIfInBounds_toArray, List.set_cons_zero, List.set_cons_succ]
      refine anyH_take 11 (some 32) (v := ?_) rfl rfl (by kernel_rfl) (by kernel_rfl) (by kernel_rfl) (fun _ _ _ h => h) (Or.inl ⟨by rfl, ?_⟩) hS0 ?_
      rotate_left
      · intro w _
        go_simp
        try (with_reducible rfl)
      simp only [Act.put, List.setIfInBounds_toArray, List.set_cons_zero, List.set_cons_succ]
      refine anyH_take 12 (some 33) (v := ?_) rfl rfl (by kernel_rfl) (by kernel_rfl) (by kernel_rfl) (fun _ _ _ h => h) (Or.inl ⟨by rfl, ?_⟩) hS0 ?_
      rotate_left
      · intro w _
        go_simp
        try (with_reducible rfl)
      simp only [Act.put, List.setIfInBounds_toArray, List.set_cons_zero, List.set_cons_succ]
      refine anyH_take 13 (some 34) (v := ?_) rfl rfl (by kernel_rfl) (by kernel_rfl) (by kernel_rfl) (fun _ _ _ h => h) (Or.inl ⟨by rfl, ?_⟩) hS0 ?_
      rotate_left
      · intro w _
        go_simp
        try (with_reducible rfl)
      simp only [Act.put, List.setIfInBounds_toArray, List.set_cons_zero, List.set_cons_succ]
      refine anyH_take 14 (some 35) (v := ?_) rfl rfl (by kernel_rfl) (by kernel_rfl) (by kernel_rfl) (fun _ _ _ h => h) (Or.inl ⟨by rfl, ?_⟩) hS0 ?_
      rotate_left
      · intro w _
        go_simp
        try (with_reducible rfl)
      simp only [Act.put, List.setIfInBounds_toArray, List.set_cons_zero, List.set_cons_succ]
      refine anyH_take 15 (some 36) (v := ?_) rfl rfl (by kernel_rfl) (by kernel_rfl) (by kernel_rfl) (fun _ _ _ h => h) (Or.inl ⟨by rfl, ?_⟩) hS0 ?_
      rotate_left
      · intro w _
        go_simp
        try (with_reducible rfl)
      simp only [Act.put, List.setIfInBounds_toArray, List.set_cons_zero, List.set_cons_succ]
      refine anyH_take 18 (some 39) (v := ?_) rfl rfl (by kernel_rfl) (by kernel_rfl) (by kernel_rfl) (fun _ _ _ h => h) (Or.inl ⟨by rfl, ?_⟩) hS0 ?_
      rotate_left
      · intro w _
        go_simp
        try (with_reducible rfl)
      simp only [Act.put, List.setIfInBounds_toArray, List.set_cons_zero, List.set_cons_succ]
      refine anyH_take 19 (some 40) (v := ?_) rfl rfl (by kernel_rfl) (by kernel_rfl) (by kernel_rfl) (fun _ _ _ h => h) (Or.inl ⟨by rfl, ?_⟩) hS0 ?_
      rotate_left
      · intro w _
        go_simp
        try (with_reducible rfl)
      simp only [Act.put, List.setIfInBounds_toArray, List.set_cons_zero, List.set_cons_succ]
      refine anyH_take 20 (some 41) (v := ?_) rfl rfl (by kernel_rfl) (by kernel_rfl) (by kernel_rfl) (fun _ _ _ h => h) (Or.inl ⟨by rfl, ?_⟩) hS0 ?_
      rotate_left
      · intro w _
        go_simp
        try (with_reducible rfl)
      simp only [Act.put, List.setIfInBounds_toArray, List.set_cons_zero, List.set_cons_succ]
      refine anyH_take 21 (some 42) rfl rfl (by kernel_rfl) (by kernel_rfl) (by kernel_rfl) (fun _ _ _ h => h) (yieldsIf_load1 rfl rfl ⟨b, o + k, none⟩ (vs p) _ rfl (fun _ h => h) Try.nstr rfl) hS0 ?_
      simp only [Act.put, List.setIfInBounds_toArray, List.set_cons_zero, List.set_cons_succ]
      refine wpAnyH_ready (rs := [16]) (by kernel_rfl) (by simp) ?_
      refine AllReadyH.cons rfl (fun K hK => ?_) AllReadyH.nil
      rw [HQ.out.1, HQ.out.2.1, HQ.out.2.2.1, HQ.out.2.2.2]
      refine step_bslice (some 37) rfl rfl rfl 5 [.int .u8 ((n : Int) / 16777216 % 256), .int .u8 ((n : Int) / 65536 % 256), .int .u8 ((n : Int) / 256 % 256), .int .u8 ((n : Int) % 256)] Try.ubytes Try.zu8 (by omega) rfl (by omega) (by intro v hv; simp only [List.mem_cons, List.not_mem_nil, or_false] at hv; rcases hv with rfl | rfl | rfl | rfl <;> rfl) rfl ?_
      intro W5 hb5 hg5 hz5
      have hS5 : W5.cell? ⟨b, o + k, none⟩ = some (vs p) := cell_grown hg5 _ _ hS0
      have hbb : BytesAt W5 (.slice (some ⟨wr.drew.heap.size, 0, none⟩) 4 4) (be32 p.length) := (HBE.out W5 _ hb5)
      refine hK.out _ _ hS5 (fun _ => ?_)
      clear hK K
      simp only [Act.put, List.setIfInBounds_toArray, List.set_cons_zero, List.set_cons_succ]
      refine wpAnyH_ready (rs := [17]) (by kernel_rfl) (by simp) ?_
      refine AllReadyH.cons rfl (fun K hK => ?_) AllReadyH.nil
      refine gstep_bstring (some 38) rfl rfl rfl _ (be32 p.length) 5 rfl hbb Try.ubytes Try.uu8 Try.ustr ?_
      refine hK.out _ _ hS5 (fun _ => ?_)
      clear hK K
      simp only [Act.put, List.setIfInBounds_toArray, List.set_cons_zero, List.set_cons_succ]
      refine anyH_take 22 (some 43) rfl rfl (by kernel_rfl) (by kernel_rfl) (by kernel_rfl) (fun _ _ _ h => h) (yieldsIf_sadd rfl rfl (be32 p.length) p rfl rfl (by kernel_rfl) (HLN.out.1)) hS5 ?_
      simp only [Act.put, List.setIfInBounds_toArray, List.set_cons_zero, List.set_cons_succ]
      refine anyH_take 23 (some 44) rfl rfl (by kernel_rfl) (by kernel_rfl) (by kernel_rfl) (fun _ _ _ h => h) (yieldsIf_sadd rfl rfl s0 (be32 p.length ++ p) rfl rfl (by kernel_rfl) (HLN.out.2)) hS5 ?_
      simp only [Act.put, List.setIfInBounds_toArray, List.set_cons_zero, List.set_cons_succ]
      refine anyH_take 24 (some 5) (v := ?_) rfl rfl (by kernel_rfl) (by kernel_rfl) (by kernel_rfl) (fun _ _ _ h => h) (Or.inl ⟨by rfl, ?_⟩) hS5 ?_
      rotate_left
      · intro w _
        go_simp
        try (with_reducible rfl)
      simp only [Act.put, List.setIfInBounds_toArray, List.set_cons_zero, List.set_cons_succ]
      refine wpAnyH_done (by kernel_rfl) ?_ _

      have hG5 : w.grownBy W5 none := grown_trans (grown_trans HB.out.2 (grown_drew wr none)) hg5
      have hB5 : Blk W5 gr (u8s (List.replicate 32 0)) 29 := (HB.out.1.kept (grown_drew wr none) (by simp)).kept hg5 (by simp)
      have hs1 : s0 ++ (be32 n ++ p) = purpose ++ 0 :: (ls.take (k + 1)).flatMap sized := by
        rw [← hn', HS0.out, List.take_succ_eq_append_getElem hkl, List.flatMap_append, HPP.out]
        simp [sized, List.getD_eq_getElem?_getD, List.getElem?_eq_getElem hkl]
      have HS1 := Lib.hid hs1
      clear hs1 hb5 hg5 hz5 hS5 hbb hS0 HB HLN HQ HBE
      go_wp2_with fail
      go_roundw
      case rel => exact ⟨k + 1, by omega, by go_num, congrArg vs HS1.out, hB5, hG5⟩
      case measure => simp [intOf]; omega
    · obtain rfl : k = ls.length := by omega
      rw [List.take_length]
      have hfl : (purpose ++ 0 :: ls.flatMap sized).length < 268435456 := by
        simp only [List.length_append, List.length_cons]; omega
      go_wp2_with fail
      refine (rof_calls _ hfl _).mono ?_
      rintro e W8 ⟨rfl, hg8⟩
      have hi8 := HB.out.1.kept hg8 (by simp)
      have hG8 := grown_trans HB.out.2 hg8
      have hfs : sha (purpose ++ 0 :: ls.flatMap sized) = forSum purpose ls := rfl
      rw [hfs]
      have hshl : (forSum purpose ls).length = 32 := sha_length _
      clear hfl
      go_wp2_with ((with_reducible refine law_store gr 0 ((forSum purpose ls).map vb) _ _ ?_ ?_ hi8 ?_ ?_ ?_ ?_); rfl; rfl; (rw [u8s_size, List.length_map, hshl, List.length_replicate]; omega); (intro v hv; obtain ⟨b, _, rfl⟩ := List.mem_map.1 hv; rfl); (rw [Try.sid, List.length_map, hshl]))
      intro W9 hi9 hg9 hz9
      rw [lay_whole _ _ (by rw [u8s_size, List.length_map, hshl, List.length_replicate])] at hi9
      go_wp2_with fail
      refine bodyPost_ret (results_cell_row rfl _ _ gr 29 _ _ _ rfl hi9 Try.uid rfl (by rw [Try.sid]; simp [hshl])) rfl ?_
      exact ⟨rfl, grown_new hG8 hg9 (fun g hg => by cases hg; have := HGR.out; omega)⟩
end Go.Proofs.Yteicjpjniaohhaa
