/- The reference's journal: Write. -/
import Derived.Test.YteicjpjniaohhaaROpen
import Derived.Test.YteicjpjniaohhaaRDisk3
set_option linter.unusedVariables false
set_option linter.unusedSimpArgs false
namespace Scv
open Go Go.RowKit
theorem rjcells_setdown (d : Disk) (rv : Value) (s : Jour) (b : Bool) (h : s.last.length = 32) : (rjcells d rv s).setIfInBounds 37 (.bool b) = rjcells d rv { s with down := b } := by
  have e : ∀ c : Bool, rjcells d rv { s with down := c } = (dcells d ++ (#[rv] ++ u8s s.last)) ++ #[.bool c] := fun c => by unfold rjcells; simp
  have hz : (dcells d ++ (#[rv] ++ u8s s.last)).size = 37 := by simp [dcells, u8s, h]
  rw [show s = { s with down := s.down } from rfl, e, e, Array.setIfInBounds_append_right (by omega), hz]; rfl
end Scv
namespace Go.Proofs.Yteicjpjniaohhaa
open Go.RowKit Go.Shelf Scv
theorem Try.sbool : (Try.prog.info? 4).map (·.size) = some 1 := by kernel_rfl
set_option maxRecDepth 100000 in
set_option maxHeartbeats 4000000 in
theorem rwrite_calls (d : Disk) (rv : Value) (s : Jour) (data : List UInt8) (base : Nat) (w : World) (hok : d.ok) (hl : s.last.length = 32) (hrow : Row w base 9 rv (s.records.map vs)) (hcnt : s.records.length < 1073741824) :
    Calls Try.prog 23 #[rjval d rv s, vs data] w fun e w' => w.grownBy w' none ∧ ∃ rv', Row w' 0 9 rv' ((s.write d data).1.records.map vs) ∧ (∀ q, rv'.ownBlock = some q → rv.ownBlock = some q ∨ w.heap.size ≤ q) ∧
      e = .returned (.tuple #[rjval (s.write d data).2.1 rv' (s.write d data).1, .int .i64 (s.write d data).2.2]) := by
  obtain ⟨td, hu, htd⟩ := Try.udslab
  obtain ⟨tj, huj, htj⟩ := Try.urjour
  have hone := hrow.one
  have hrow0 : Row w 0 9 rv (s.records.map vs) := by
    rcases hrow with h | ⟨g, cap, cur, fr, hv, h1, h2⟩
    · exact .inl h
    · exact .inr ⟨g, cap, cur, fr, hv, Nat.zero_le _, h2⟩
  obtain ⟨b, hb⟩ : ∃ b, b = s.down := ⟨_, rfl⟩
  have HOK := Lib.hid (And.intro hok (And.intro hl (And.intro hone (And.intro hrow0 (And.intro hcnt hb)))))
  obtain ⟨adr, nr, capr, hrv⟩ := hrow0.shape
  clear hok hl hone hrow hrow0 hcnt
  have c37 := rjcells_down d rv s HOK.out.2.1
  rw [← hb] at c37
  clear hb
  subst hrv
  go_enter Try.func23, Try.ntmps23
  go_wp2_with (first | (with_reducible refine law_box (.agg (rjcells d (.slice adr nr capr) s)) rfl ?_) | (with_reducible refine law_alloc _ Try.zrjour ?_))
  intro W1 hb1 hg1 hz1
  go_wp2_with (first | (with_reducible refine law_box (.agg (rjcells d (.slice adr nr capr) s)) rfl ?_) | (with_reducible refine law_alloc _ Try.zrjour ?_))
  intro W2 hb2 hg2 hz2
  obtain ⟨g1, hg1'⟩ : ∃ g, g = w.heap.size := ⟨_, rfl⟩
  obtain ⟨g2, hg2'⟩ : ∃ g, g = W1.heap.size := ⟨_, rfl⟩
  rw [← hg1'] at hb1
  rw [← hg2'] at hb2
  rw [← hg1', ← hg2']
  replace hb1 : Blk W2 g1 (rjcells d (.slice adr nr capr) s) 52 := Blk.kept (cs := rjcells d (.slice adr nr capr) s) hb1 hg2 (by simp)
  replace hb2 : Blk W2 g2 (rjcells ⟨0, [], 0, 0⟩ (.slice none 0 0) ⟨[], zero32, false⟩) 52 := hb2
  have HG2 := Lib.hid (grown_trans hg1 hg2)
  have HG := Lib.hid (show g1 = w.heap.size ∧ g2 = g1 + 1 by omega)
  clear hg1 hg2 hg1' hg2' hz1 hz2
  have cd : W2.cell? ⟨g1, 37, none⟩ = some (.bool b) := by rw [hb1.cell]; exact c37
  clear c37
  have HW := Lib.hid (show ∀ (D : Disk) (S : Jour) (V : Value) (c : Int) (W3 : World), s.write d data = (S, D, c) → w.grownBy W3 none → Row W3 0 9 V (S.records.map vs) → (∀ q, V.ownBlock = some q → (Value.slice adr nr capr).ownBlock = some q ∨ w.heap.size ≤ q) →
      (w.grownBy W3 none ∧ ∃ rv', Row W3 0 9 rv' ((s.write d data).1.records.map vs) ∧ (∀ q, rv'.ownBlock = some q → (Value.slice adr nr capr).ownBlock = some q ∨ w.heap.size ≤ q) ∧
      Ending.returned (.tuple #[rjval D V S, .int .i64 c]) = .returned (.tuple #[rjval (s.write d data).2.1 rv' (s.write d data).1, .int .i64 (s.write d data).2.2])) from
    fun D S V c W3 h1 h2 h3 h4 => by rw [h1]; exact ⟨h2, V, h3, h4, rfl⟩)
  by_cases hdn : b = true
  · have hwr : s.write d data = (s, d, 90) := by unfold Jour.write; rw [if_pos (by rw [← HOK.out.2.2.2.2.2]; exact hdn)]
    have HR := Lib.hid hwr
    clear hwr
    subst hdn
    go_wp2_with (first | ((with_reducible refine law_loadw g1 _ _ _ ?_ hb1 huj htj ?_ ?_); rfl; (rw [rjcells_size _ _ _ HOK.out.2.1]; exact Try.srjour)) |
      ((with_reducible refine law_storew g2 (rjcells d (.slice adr nr capr) s) _ _ ?_ ?_ hb2 ?_ ?_ ?_ ?_); rfl; rfl; (rw [rjcells_size _ _ _ HOK.out.2.1, rjcells_size _ _ _ rfl]); exact rjcells_one _ _ _ rfl; (rw [rjcells_size _ _ _ HOK.out.2.1]; exact Try.srjour)))
    intro W3 hb3 hg3 hz3
    have hG3 := grown_new HG2.out hg3 (by rintro _ ⟨⟩; have := HG.out; omega)
    have HE := Lib.hid (HW.out d s _ 90 W3 HR.out hG3 (HOK.out.2.2.2.1.grown hG3 (.inl rfl)) (fun q hq => .inl hq))
    clear hG3 hg3 hz3
    go_wp2_with fail
    refine bodyPost_ret (results_row2 rfl _ _ g2 52 _ _ _ rfl hb3 huj htj (by rw [rjcells_size _ _ _ HOK.out.2.1]; exact Try.srjour) _ rfl) rfl ?_
    exact HE.out
  obtain rfl : b = false := by simpa using hdn
  clear hdn
  by_cases hlong : 262144 < data.length
  · have hlongi : (262144 : Int) < data.length := by omega
    have hwr : s.write d data = (s, d, 2) := by unfold Jour.write; rw [if_neg (by rw [← HOK.out.2.2.2.2.2]; simp), if_pos hlong]
    have HR := Lib.hid hwr
    clear hwr hlong
    go_wp2_with (first | ((with_reducible refine law_loadw g1 _ _ _ ?_ hb1 huj htj ?_ ?_); rfl; (rw [rjcells_size _ _ _ HOK.out.2.1]; exact Try.srjour)) |
      ((with_reducible refine law_storew g2 (rjcells d (.slice adr nr capr) s) _ _ ?_ ?_ hb2 ?_ ?_ ?_ ?_); rfl; rfl; (rw [rjcells_size _ _ _ HOK.out.2.1, rjcells_size _ _ _ rfl]); exact rjcells_one _ _ _ rfl; (rw [rjcells_size _ _ _ HOK.out.2.1]; exact Try.srjour)))
    intro W3 hb3 hg3 hz3
    have hG3 := grown_new HG2.out hg3 (by rintro _ ⟨⟩; have := HG.out; omega)
    have HE := Lib.hid (HW.out d s _ 2 W3 HR.out hG3 (HOK.out.2.2.2.1.grown hG3 (.inl rfl)) (fun q hq => .inl hq))
    clear hG3 hg3 hz3
    go_wp2_with fail
    refine bodyPost_ret (results_row2 rfl _ _ g2 52 _ _ _ rfl hb3 huj htj (by rw [rjcells_size _ _ _ HOK.out.2.1]; exact Try.srjour) _ rfl) rfl ?_
    exact HE.out
  have hlongi : ¬ (262144 : Int) < data.length := by omega
  have hwr : s.write d data = if (d.append (recB s.last data)).2 ≠ 0 then ({ s with down := decide ((d.append (recB s.last data)).2 = 90) }, (d.append (recB s.last data)).1, (d.append (recB s.last data)).2)
      else if (d.append (recB s.last data)).1.sync.2 ≠ 0 then ({ s with down := decide ((d.append (recB s.last data)).1.sync.2 = 90) }, (d.append (recB s.last data)).1.sync.1, (d.append (recB s.last data)).1.sync.2)
      else (s.more data, (d.append (recB s.last data)).1.sync.1, 0) := by
    unfold Jour.write; rw [if_neg (by rw [← HOK.out.2.2.2.2.2]; simp), if_neg hlong]
  have hrl : (recB s.last data).length < 1099511627776 := by rw [recB_length]; omega
  obtain ⟨rec, hrec⟩ : ∃ x, x = recB s.last data := ⟨_, rfl⟩
  rw [← hrec] at hwr hrl
  obtain ⟨d1, hd1⟩ : ∃ x, x = (d.append rec).1 := ⟨_, rfl⟩
  obtain ⟨e1, he1⟩ : ∃ x, x = (d.append rec).2 := ⟨_, rfl⟩
  rw [← hd1, ← he1] at hwr
  have hok1 : d1.ok := by rw [hd1]; exact Disk.append_ok HOK.out.1 rec
  have HR := Lib.hid (And.intro hwr (And.intro hrec (And.intro hd1 (And.intro he1 (And.intro hok1 hrl)))))
  clear hwr hrec hd1 he1 hok1 hrl hlong
  go_upto_region 5 with fail
  go_cut [6, 7] from 9 (fun s6 s7 wx => ∃ g6 : Nat, s6 = .pointer (some ⟨g6, 0, none⟩) ∧ s7 = .int .i64 e1 ∧ Blk wx g6 (dcells d1) 47 ∧ g2 < g6 ∧ W2.grownBy wx none)
  case first =>
    have hS0 : Blk W2.drew g1 (rjcells d (.slice adr nr capr) s) 52 := hb1
    have hg0 : W2.grownBy W2.drew none := grown_drew W2 none
    have hg2l := hb2.lt
    refine wp_region_held_drew (S := fun w' : World => Blk w' g1 (rjcells d (.slice adr nr capr) s) 52) (by kernel_rfl) hS0 (fun _ => ?_)
    refine anyH_take 0 (some 17) (v := ?_) rfl rfl (by kernel_rfl) (by kernel_rfl) (by kernel_rfl) (fun _ _ _ h => h) (Or.inl ⟨by rfl, ?_⟩) hS0 ?_
    rotate_left
    · intro w _
      go_simp
      try (with_reducible rfl)
    simp only [Act.put, List.setIfInBounds_toArray, List.set_cons_zero, List.set_cons_succ]
    refine anyH_take 1 (some 18) rfl rfl (by kernel_rfl) (by kernel_rfl) (by kernel_rfl) (fun _ _ _ h => h) (yieldsIf_load rfl rfl g1 0 (dcells d).toList _ _ _ rfl (fun _ h => h) (fun i hi => by rw [Nat.zero_add, rjcells_disk _ _ _ _ hi]; simp) hu htd Try.sdslab) hS0 ?_
    simp only [Act.put, List.setIfInBounds_toArray, List.set_cons_zero, List.set_cons_succ]
    refine anyH_take 2 (some 19) (v := ?_) rfl rfl (by kernel_rfl) (by kernel_rfl) (by kernel_rfl) (fun _ _ _ h => h) (Or.inl ⟨by rfl, ?_⟩) hS0 ?_
    rotate_left
    · intro w _
      go_simp
      try (with_reducible rfl)
    simp only [Act.put, List.setIfInBounds_toArray, List.set_cons_zero, List.set_cons_succ]
    refine anyH_take 3 (some 20) rfl rfl (by kernel_rfl) (by kernel_rfl) (by kernel_rfl) (fun _ _ _ h => h) (yieldsIf_load rfl rfl g1 5 (s.last.map vb) _ _ _ rfl (fun _ h => h) (fun i hi => by rw [List.length_map] at hi; rw [rjcells_last _ _ _ i hi]; simp [List.getD_eq_getElem?_getD, List.getElem?_eq_getElem hi]) Try.uid rfl (by rw [Try.sid, List.length_map, HOK.out.2.1])) hS0 ?_
    simp only [Act.put, List.setIfInBounds_toArray, List.set_cons_zero, List.set_cons_succ]
    refine anyH_take 4 (some 21) (v := ?_) rfl rfl (by kernel_rfl) (by kernel_rfl) (by kernel_rfl) (fun _ _ _ h => h) (Or.inl ⟨by rfl, ?_⟩) hS0 ?_
    rotate_left
    · intro w _
      go_simp
      try (with_reducible rfl)
    simp only [Act.put, List.setIfInBounds_toArray, List.set_cons_zero, List.set_cons_succ]
    refine wpAnyH_ready (rs := [5, 10]) (by kernel_rfl) (by simp) ?_
    refine AllReadyH.cons rfl (fun K hK => ?_) (AllReadyH.cons rfl (fun K hK => ?_) AllReadyH.nil)
    · refine gstep_call (some 22) rfl rfl rfl #[.agg (u8s s.last), vs data] rfl (fun _ => by simp [go_sem]) (rrecord_calls s.last data _ HOK.out.2.1 (by omega)) ?_
      rintro _ Wr1 ⟨rfl, hgr1⟩
      rw [← HR.out.2.1]
      have hS1 : Blk Wr1 g1 (rjcells d (.slice adr nr capr) s) 52 := hS0.kept hgr1 (by simp)
      have hgt1 := grown_trans hg0 hgr1
      refine ⟨_, rfl, ?_⟩
      refine hK.out _ _ hS1 (fun _ => ?_)
      clear hK K
      simp only [Act.put, List.setIfInBounds_toArray, List.set_cons_zero, List.set_cons_succ]
      refine wpAnyH_ready (rs := [6, 10]) (by kernel_rfl) (by simp) ?_
      refine AllReadyH.cons rfl (fun K hK => ?_) (AllReadyH.cons rfl (fun K hK => ?_) AllReadyH.nil)
      · refine gstep_call (some 23) rfl rfl rfl #[dval d, vs rec] rfl (fun _ => by simp [go_sem]) (dappend_calls d rec _ HOK.out.1 HR.out.2.2.2.2.2) ?_
        rintro _ Wr2 ⟨rfl, hgr2⟩
        rw [← HR.out.2.2.1, ← HR.out.2.2.2.1]
        have hS2 : Blk Wr2 g1 (rjcells d (.slice adr nr capr) s) 52 := hS1.kept hgr2 (by simp)
        have hgt2 := grown_trans hgt1 hgr2
        refine ⟨_, rfl, ?_⟩
        refine hK.out _ _ hS2 (fun _ => ?_)
        clear hK K
        simp only [Act.put, List.setIfInBounds_toArray, List.set_cons_zero, List.set_cons_succ]
        refine anyH_take 7 (some 16) (v := ?_) rfl rfl (by kernel_rfl) (by kernel_rfl) (by kernel_rfl) (fun _ _ _ h => h) (Or.inl ⟨by rfl, ?_⟩) hS2 ?_
        rotate_left
        · intro w _
          go_simp
          try (with_reducible rfl)
        simp only [Act.put, List.setIfInBounds_toArray, List.set_cons_zero, List.set_cons_succ]
        refine anyH_take 8 (some 24) (v := ?_) rfl rfl (by kernel_rfl) (by kernel_rfl) (by kernel_rfl) (fun _ _ _ h => h) (Or.inl ⟨by rfl, ?_⟩) hS2 ?_
        rotate_left
        · intro w _
          go_simp
          try (with_reducible rfl)
        simp only [Act.put, List.setIfInBounds_toArray, List.set_cons_zero, List.set_cons_succ]
        refine anyH_take 9 (some 25) (v := ?_) rfl rfl (by kernel_rfl) (by kernel_rfl) (by kernel_rfl) (fun _ _ _ h => h) (Or.inl ⟨by rfl, ?_⟩) hS2 ?_
        rotate_left
        · intro w _
          go_simp
          try (with_reducible rfl)
        simp only [Act.put, List.setIfInBounds_toArray, List.set_cons_zero, List.set_cons_succ]
        refine wpAnyH_ready (rs := [10]) (by kernel_rfl) (by simp) ?_
        refine AllReadyH.cons rfl (fun K hK => ?_) AllReadyH.nil
        refine step_alloc (some 6) rfl rfl rfl _ Try.zdslab ?_
        intro Wr3 hb63 hgr3 hza3
        clear hza3
        replace hb63 : Blk Wr3 Wr2.heap.size (dcells ⟨0, [], 0, 0⟩) 47 := hb63
        have hlt3 : g2 < Wr2.heap.size := Nat.lt_of_lt_of_le hg2l hgt2.size
        have hge3 : W2.heap.size ≤ Wr2.heap.size := hgt2.size
        have hS3 : Blk Wr3 g1 (rjcells d (.slice adr nr capr) s) 52 := hS2.kept hgr3 (by simp)
        have hgt3 := grown_trans hgt2 hgr3
        refine hK.out _ _ hS3 (fun _ => ?_)
        clear hK K
        simp only [Act.put, List.setIfInBounds_toArray, List.set_cons_zero, List.set_cons_succ]
        refine wpAnyH_ready (rs := [11]) (by kernel_rfl) (by simp) ?_
        refine AllReadyH.cons rfl (fun K hK => ?_) AllReadyH.nil
        refine step_store none rfl rfl rfl Wr2.heap.size 0 (dcells d1).toList _ _ rfl rfl hb63 (Nat.le_refl _) (dcells_one d1) Try.sdslab ?_
        intro Wr4 hb64 hgr4 hza4
        rw [lay_whole (dcells ⟨0, [], 0, 0⟩) (dcells d1).toList rfl] at hb64
        replace hb64 : Blk Wr4 Wr2.heap.size (dcells d1) 47 := hb64
        have hS4 : Blk Wr4 g1 (rjcells d (.slice adr nr capr) s) 52 := hS3.kept hgr4 (by have := HG.out; have := hlt3; simp only [ne_eq, Option.some.injEq]; omega)
        have hgt4 := grown_new hgt3 hgr4 (by rintro _ ⟨⟩; exact hge3)
        refine hK.out _ _ hS4 (fun _ => ?_)
        clear hK K
        simp only [Act.put, List.setIfInBounds_toArray, List.set_cons_zero, List.set_cons_succ]
        refine anyH_take 12 (some 7) (v := ?_) rfl rfl (by kernel_rfl) (by kernel_rfl) (by kernel_rfl) (fun _ _ _ h => h) (Or.inl ⟨by rfl, ?_⟩) hS4 ?_
        rotate_left
        · intro w _
          go_simp
          try (with_reducible rfl)
        simp only [Act.put, List.setIfInBounds_toArray, List.set_cons_zero, List.set_cons_succ]
        refine wpAnyH_done (by kernel_rfl) ?_ _
        go_wp2_with fail
        go_meet
        exact ⟨_, rfl, rfl, hb64, hlt3, hgt4⟩
      · refine step_alloc (some 6) rfl rfl rfl _ Try.zdslab ?_
        intro Wr5 hb65 hgr5 hza5
        clear hza5
        replace hb65 : Blk Wr5 Wr1.heap.size (dcells ⟨0, [], 0, 0⟩) 47 := hb65
        have hlt5 : g2 < Wr1.heap.size := Nat.lt_of_lt_of_le hg2l hgt1.size
        have hge5 : W2.heap.size ≤ Wr1.heap.size := hgt1.size
        have hS5 : Blk Wr5 g1 (rjcells d (.slice adr nr capr) s) 52 := hS1.kept hgr5 (by simp)
        have hgt5 := grown_trans hgt1 hgr5
        refine hK.out _ _ hS5 (fun _ => ?_)
        clear hK K
        simp only [Act.put, List.setIfInBounds_toArray, List.set_cons_zero, List.set_cons_succ]
        refine wpAnyH_ready (rs := [6]) (by kernel_rfl) (by simp) ?_
        refine AllReadyH.cons rfl (fun K hK => ?_) AllReadyH.nil
        refine gstep_call (some 23) rfl rfl rfl #[dval d, vs rec] rfl (fun _ => by simp [go_sem]) (dappend_calls d rec _ HOK.out.1 HR.out.2.2.2.2.2) ?_
        rintro _ Wr6 ⟨rfl, hgr6⟩
        rw [← HR.out.2.2.1, ← HR.out.2.2.2.1]
        have hS6 : Blk Wr6 g1 (rjcells d (.slice adr nr capr) s) 52 := hS5.kept hgr6 (by simp)
        have hgt6 := grown_trans hgt5 hgr6
        have hb66 := hb65.kept hgr6 (by simp)
        refine ⟨_, rfl, ?_⟩
        refine hK.out _ _ hS6 (fun _ => ?_)
        clear hK K
        simp only [Act.put, List.setIfInBounds_toArray, List.set_cons_zero, List.set_cons_succ]
        refine anyH_take 7 (some 16) (v := ?_) rfl rfl (by kernel_rfl) (by kernel_rfl) (by kernel_rfl) (fun _ _ _ h => h) (Or.inl ⟨by rfl, ?_⟩) hS6 ?_
        rotate_left
        · intro w _
          go_simp
          try (with_reducible rfl)
        simp only [Act.put, List.setIfInBounds_toArray, List.set_cons_zero, List.set_cons_succ]
        refine anyH_take 8 (some 24) (v := ?_) rfl rfl (by kernel_rfl) (by kernel_rfl) (by kernel_rfl) (fun _ _ _ h => h) (Or.inl ⟨by rfl, ?_⟩) hS6 ?_
        rotate_left
        · intro w _
          go_simp
          try (with_reducible rfl)
        simp only [Act.put, List.setIfInBounds_toArray, List.set_cons_zero, List.set_cons_succ]
        refine anyH_take 9 (some 25) (v := ?_) rfl rfl (by kernel_rfl) (by kernel_rfl) (by kernel_rfl) (fun _ _ _ h => h) (Or.inl ⟨by rfl, ?_⟩) hS6 ?_
        rotate_left
        · intro w _
          go_simp
          try (with_reducible rfl)
        simp only [Act.put, List.setIfInBounds_toArray, List.set_cons_zero, List.set_cons_succ]
        refine wpAnyH_ready (rs := [11]) (by kernel_rfl) (by simp) ?_
        refine AllReadyH.cons rfl (fun K hK => ?_) AllReadyH.nil
        refine step_store none rfl rfl rfl Wr1.heap.size 0 (dcells d1).toList _ _ rfl rfl hb66 (Nat.le_refl _) (dcells_one d1) Try.sdslab ?_
        intro Wr7 hb67 hgr7 hza7
        rw [lay_whole (dcells ⟨0, [], 0, 0⟩) (dcells d1).toList rfl] at hb67
        replace hb67 : Blk Wr7 Wr1.heap.size (dcells d1) 47 := hb67
        have hS7 : Blk Wr7 g1 (rjcells d (.slice adr nr capr) s) 52 := hS6.kept hgr7 (by have := HG.out; have := hlt5; simp only [ne_eq, Option.some.injEq]; omega)
        have hgt7 := grown_new hgt6 hgr7 (by rintro _ ⟨⟩; exact hge5)
        refine hK.out _ _ hS7 (fun _ => ?_)
        clear hK K
        simp only [Act.put, List.setIfInBounds_toArray, List.set_cons_zero, List.set_cons_succ]
        refine anyH_take 12 (some 7) (v := ?_) rfl rfl (by kernel_rfl) (by kernel_rfl) (by kernel_rfl) (fun _ _ _ h => h) (Or.inl ⟨by rfl, ?_⟩) hS7 ?_
        rotate_left
        · intro w _
          go_simp
          try (with_reducible rfl)
        simp only [Act.put, List.setIfInBounds_toArray, List.set_cons_zero, List.set_cons_succ]
        refine wpAnyH_done (by kernel_rfl) ?_ _
        go_wp2_with fail
        go_meet
        exact ⟨_, rfl, rfl, hb67, hlt5, hgt7⟩
    · refine step_alloc (some 6) rfl rfl rfl _ Try.zdslab ?_
      intro Wr8 hb68 hgr8 hza8
      clear hza8
      replace hb68 : Blk Wr8 W2.drew.heap.size (dcells ⟨0, [], 0, 0⟩) 47 := hb68
      have hlt8 : g2 < W2.drew.heap.size := Nat.lt_of_lt_of_le hg2l hg0.size
      have hge8 : W2.heap.size ≤ W2.drew.heap.size := hg0.size
      have hS8 : Blk Wr8 g1 (rjcells d (.slice adr nr capr) s) 52 := hS0.kept hgr8 (by simp)
      have hgt8 := grown_trans hg0 hgr8
      refine hK.out _ _ hS8 (fun _ => ?_)
      clear hK K
      simp only [Act.put, List.setIfInBounds_toArray, List.set_cons_zero, List.set_cons_succ]
      refine wpAnyH_ready (rs := [5]) (by kernel_rfl) (by simp) ?_
      refine AllReadyH.cons rfl (fun K hK => ?_) AllReadyH.nil
      refine gstep_call (some 22) rfl rfl rfl #[.agg (u8s s.last), vs data] rfl (fun _ => by simp [go_sem]) (rrecord_calls s.last data _ HOK.out.2.1 (by omega)) ?_
      rintro _ Wr9 ⟨rfl, hgr9⟩
      rw [← HR.out.2.1]
      have hS9 : Blk Wr9 g1 (rjcells d (.slice adr nr capr) s) 52 := hS8.kept hgr9 (by simp)
      have hgt9 := grown_trans hgt8 hgr9
      have hb69 := hb68.kept hgr9 (by simp)
      refine ⟨_, rfl, ?_⟩
      refine hK.out _ _ hS9 (fun _ => ?_)
      clear hK K
      simp only [Act.put, List.setIfInBounds_toArray, List.set_cons_zero, List.set_cons_succ]
      refine wpAnyH_ready (rs := [6]) (by kernel_rfl) (by simp) ?_
      refine AllReadyH.cons rfl (fun K hK => ?_) AllReadyH.nil
      refine gstep_call (some 23) rfl rfl rfl #[dval d, vs rec] rfl (fun _ => by simp [go_sem]) (dappend_calls d rec _ HOK.out.1 HR.out.2.2.2.2.2) ?_
      rintro _ Wr10 ⟨rfl, hgr10⟩
      rw [← HR.out.2.2.1, ← HR.out.2.2.2.1]
      have hS10 : Blk Wr10 g1 (rjcells d (.slice adr nr capr) s) 52 := hS9.kept hgr10 (by simp)
      have hgt10 := grown_trans hgt9 hgr10
      have hb610 := hb69.kept hgr10 (by simp)
      refine ⟨_, rfl, ?_⟩
      refine hK.out _ _ hS10 (fun _ => ?_)
      clear hK K
      simp only [Act.put, List.setIfInBounds_toArray, List.set_cons_zero, List.set_cons_succ]
      refine anyH_take 7 (some 16) (v := ?_) rfl rfl (by kernel_rfl) (by kernel_rfl) (by kernel_rfl) (fun _ _ _ h => h) (Or.inl ⟨by rfl, ?_⟩) hS10 ?_
      rotate_left
      · intro w _
        go_simp
        try (with_reducible rfl)
      simp only [Act.put, List.setIfInBounds_toArray, List.set_cons_zero, List.set_cons_succ]
      refine anyH_take 8 (some 24) (v := ?_) rfl rfl (by kernel_rfl) (by kernel_rfl) (by kernel_rfl) (fun _ _ _ h => h) (Or.inl ⟨by rfl, ?_⟩) hS10 ?_
      rotate_left
      · intro w _
        go_simp
        try (with_reducible rfl)
      simp only [Act.put, List.setIfInBounds_toArray, List.set_cons_zero, List.set_cons_succ]
      refine anyH_take 9 (some 25) (v := ?_) rfl rfl (by kernel_rfl) (by kernel_rfl) (by kernel_rfl) (fun _ _ _ h => h) (Or.inl ⟨by rfl, ?_⟩) hS10 ?_
      rotate_left
      · intro w _
        go_simp
        try (with_reducible rfl)
      simp only [Act.put, List.setIfInBounds_toArray, List.set_cons_zero, List.set_cons_succ]
      refine wpAnyH_ready (rs := [11]) (by kernel_rfl) (by simp) ?_
      refine AllReadyH.cons rfl (fun K hK => ?_) AllReadyH.nil
      refine step_store none rfl rfl rfl W2.drew.heap.size 0 (dcells d1).toList _ _ rfl rfl hb610 (Nat.le_refl _) (dcells_one d1) Try.sdslab ?_
      intro Wr11 hb611 hgr11 hza11
      rw [lay_whole (dcells ⟨0, [], 0, 0⟩) (dcells d1).toList rfl] at hb611
      replace hb611 : Blk Wr11 W2.drew.heap.size (dcells d1) 47 := hb611
      have hS11 : Blk Wr11 g1 (rjcells d (.slice adr nr capr) s) 52 := hS10.kept hgr11 (by have := HG.out; have := hlt8; simp only [ne_eq, Option.some.injEq]; omega)
      have hgt11 := grown_new hgt10 hgr11 (by rintro _ ⟨⟩; exact hge8)
      refine hK.out _ _ hS11 (fun _ => ?_)
      clear hK K
      simp only [Act.put, List.setIfInBounds_toArray, List.set_cons_zero, List.set_cons_succ]
      refine anyH_take 12 (some 7) (v := ?_) rfl rfl (by kernel_rfl) (by kernel_rfl) (by kernel_rfl) (fun _ _ _ h => h) (Or.inl ⟨by rfl, ?_⟩) hS11 ?_
      rotate_left
      · intro w _
        go_simp
        try (with_reducible rfl)
      simp only [Act.put, List.setIfInBounds_toArray, List.set_cons_zero, List.set_cons_succ]
      refine wpAnyH_done (by kernel_rfl) ?_ _
      go_wp2_with fail
      go_meet
      exact ⟨_, rfl, rfl, hb611, hlt8, hgt11⟩

  case rest =>
    obtain ⟨g6, rfl, rfl, hb6, hg26, hgx⟩ := hcut
    have hbx := hb1.kept hgx (by simp)
    have hb2x := hb2.kept hgx (by simp)
    have HGx := Lib.hid (grown_trans HG2.out hgx)
    clear hb1 hb2 hgx HG2 cd
    go_wp2_with (first | ((with_reducible refine law_loadw g6 (dcells d1) _ _ ?_ hb6 hu htd ?_ ?_); rfl; exact Try.sdslab) |
      ((with_reducible refine law_store g1 0 (dcells d1).toList _ _ ?_ ?_ hbx ?_ ?_ ?_ ?_); rfl; rfl; (rw [rjcells_size _ _ _ HOK.out.2.1]; show 0 + 4 ≤ 38; omega); exact dcells_one _; exact Try.sdslab))
    intro W4 hb4 hg4 hz4
    rw [rjcells_layd _ _ _ _ HOK.out.2.1] at hb4
    have hb24 := hb2x.kept hg4 (by have := HG.out; simp; omega)
    have HG4 := Lib.hid (grown_new HGx.out hg4 (by rintro _ ⟨⟩; have := HG.out; omega))
    clear hb6 hbx hb2x hg4 hz4 HGx
    by_cases hc1 : e1 = 0
    · have hd0 := hc1
      subst hc1
      have t1 : ((0 : Int) == 0) = true := rfl
      go_wp2_with ((with_reducible refine law_load g1 0 (dcells d1).toList _ _ _ ?_ hb4 ?_ hu htd ?_ ?_); rfl; (intro i hi; rw [Nat.zero_add, rjcells_disk _ _ _ _ hi]; simp); exact Try.sdslab)
      refine (dsync_calls d1 W4 HR.out.2.2.2.2.1).mono ?_
      rintro _ W5 ⟨rfl, hg5⟩
      obtain ⟨d2, hd2⟩ : ∃ x, x = d1.sync.1 := ⟨_, rfl⟩
      obtain ⟨e2, he2⟩ : ∃ x, x = d1.sync.2 := ⟨_, rfl⟩
      have hwr := HR.out.1
      rw [← hd2, ← he2, if_neg (by simp)] at hwr
      rw [← hd2, ← he2]
      have HF := Lib.hid hwr
      have hb5 := hb4.kept hg5 (by simp)
      have hb25 := hb24.kept hg5 (by simp)
      have HG5 := Lib.hid (grown_trans HG4.out hg5)
      clear hb4 hb24 hg5 HG4 hwr hd2 he2 t1 hd0
      go_wp2_with ((with_reducible refine law_store g1 0 (dcells d2).toList _ _ ?_ ?_ hb5 ?_ ?_ ?_ ?_); rfl; rfl; (rw [rjcells_size _ _ _ HOK.out.2.1]; show 0 + 4 ≤ 38; omega); exact dcells_one _; exact Try.sdslab)
      intro W6 hb6 hg6 hz6
      rw [rjcells_layd _ _ _ _ HOK.out.2.1] at hb6
      have hb26 := hb25.kept hg6 (by have := HG.out; simp; omega)
      have HG6 := Lib.hid (grown_new HG5.out hg6 (by rintro _ ⟨⟩; have := HG.out; omega))
      clear hb5 hb25 hg6 hz6 HG5
      by_cases hc2 : e2 = 0
      · subst hc2
        have hwr := HF.out
        rw [if_neg (by simp)] at hwr
        have HF := Lib.hid hwr
        clear hwr
        go_wp2_with (with_reducible refine law_bslice0 9 Try.ustrs Try.sstr ?_)
        intro v7 W7 hr7 hg7 ho7
        have crv : W7.cell? ⟨g1, 4, none⟩ = some (.slice adr nr capr) := by rw [(hb6.kept hg7 (by simp)).cell]; exact rjcells_rv _ _ _
        have hold := HOK.out.2.2.2.1.grown (grown_trans HG6.out hg7) (.inl rfl)
        have hsrc := hold.src
        have hb7 := hb6.kept hg7 (by simp)
        have hb27 := hb26.kept hg7 (by simp)
        have hle7 : ([] : List Value).length + (s.records.map vs).length ≤ 1099511627776 := by have := HOK.out.2.2.2.2.1; simp; omega
        have hs7 : W6.heap.size ≤ W7.heap.size := hg7.size
        have hone7 : ∀ u ∈ s.records.map vs, u.oneCell' = true := by intro u hu; obtain ⟨b, _, rfl⟩ := List.mem_map.1 hu; rfl
        obtain ⟨ad7, n7, cap7, hv7⟩ := hr7.shape
        subst hv7
        have HG7 := Lib.hid (grown_trans HG6.out hg7)
        have hl6 := hb6.lt
        have hl26 := hb26.lt
        clear hb6 hb26 hg7 HG6
        go_wp2_with ((with_reducible refine law_append W6.heap.size 9 (vs []) Try.ustrs Try.istr rfl (.slice ad7 n7 cap7) (.slice adr nr capr) [] (s.records.map vs) ?_ ?_ hr7 hsrc hone7 hle7 hs7 ?_); rfl; rfl)
        intro v8 W8 hr8 hg8 hn8
        rw [List.nil_append] at hr8
        have hb8 := hb7.kept hg8 (fun e => by have := (hr7.lt g1 e.symm).1; omega)
        have hb28 := hb27.kept hg8 (fun e => by have := (hr7.lt g2 e.symm).1; omega)
        have HG8 := Lib.hid (grown_new HG7.out hg8 (fun q hq => by have := (hr7.lt q hq).1; have := hb8.lt; have := HG.out; omega))
        obtain ⟨ad8, n8, cap8, hv8⟩ := hr8.shape
        subst hv8
        have HN8 := Lib.hid (And.intro hl6 hl26)
        have HS68 := Lib.hid (show W6.heap.size ≤ W8.heap.size from Nat.le_trans hs7 hg8.size)
        clear hr7 hsrc hold hle7 hs7 hone7 hb7 hb27 hg8 hn8 crv HG7 ho7 hl6 hl26
        go_wp2_with ((with_reducible refine law_bslice 9 [vs data] Try.ustrs Try.zstr ?_ ?_ ?_ ?_ ?_ ?_); omega; rfl; omega; (intro v hv; rw [List.mem_singleton.1 hv]; rfl); rfl)
        intro W9 hb9 hg9 hz9
        have hsrc9 : SrcAt W9 (.slice (some ⟨W8.heap.size, 0, none⟩) 1 1) [vs data] :=
          ⟨_, 1, rfl, fun i u hu => ⟨_, rfl, by rw [add_at, Nat.zero_add, hb9.cell]; simpa using hu⟩⟩
        have hr9 := hr8.grown hg9 (.inl rfl)
        have hle9 : (s.records.map vs).length + [vs data].length ≤ 1099511627776 := by have := HOK.out.2.2.2.2.1; simp; omega
        have hs9 : W6.heap.size ≤ W9.heap.size := by
          have h1 := hg9.size
          have h2 := hb8.lt
          rcases hr8 with ⟨h, _⟩ | ⟨g, _, _, _, _, h3, h4, _⟩
          · exact Nat.le_trans HS68.out h1
          · have := (Array.getElem?_eq_some_iff.1 h4).1; omega
        have hb99 := hb8.kept hg9 (by simp)
        have hb299 := hb28.kept hg9 (by simp)
        have hG9 := grown_trans HG8.out hg9
        have hr8lt : ∀ q, (Value.slice ad8 n8 cap8).ownBlock = some q → W6.heap.size ≤ q := fun q hq => (hr8.lt q hq).1
        clear hb9 hg9 hz9 hb8 hb28 hr8 HG8
        go_wp2_with ((with_reducible refine law_append W6.heap.size 9 (vs []) Try.ustrs Try.istr rfl (.slice ad8 n8 cap8) (.slice (some ⟨W8.heap.size, 0, none⟩) 1 1) (s.records.map vs) [vs data] ?_ ?_ hr9 hsrc9 ?_ hle9 hs9 ?_); rfl; rfl; (intro u hu; rw [List.mem_singleton.1 hu]; rfl))
        intro v10 W10 hr10 hg10 hn10
        have hr10 : Row W10 W6.heap.size 9 v10 ((s.records ++ [data]).map vs) := by rw [List.map_append]; exact hr10
        have hb10 := hb99.kept hg10 (fun e => by have := hr8lt g1 e.symm; have := HN8.out; omega)
        have hb210 := hb299.kept hg10 (fun e => by have := hr8lt g2 e.symm; have := HN8.out; omega)
        have hG10 := grown_new hG9 hg10 (fun q hq => by have := hr8lt q hq; have := HN8.out; have := HG.out; omega)
        obtain ⟨ad10, n10, cap10, hv10⟩ := hr10.shape
        subst hv10
        have hlt10 : ∀ q, (Value.slice ad10 n10 cap10).ownBlock = some q → W6.heap.size ≤ q := fun q hq => (hr10.lt q hq).1
        have HX := Lib.hid (And.intro hr10 (And.intro hG10 hlt10))
        clear hsrc9 hr9 hle9 hs9 hb99 hb299 hG9 hr8lt hr10 hg10 hn10 hG10 hlt10
        go_wp2_with ((with_reducible refine law_store1 g1 4 (.slice ad10 n10 cap10) _ _ ?_ ?_ hb10 ?_ ?_ Try.sstrs ?_); rfl; rfl; (rw [rjcells_size _ _ _ HOK.out.2.1]; omega); rfl)
        intro W11 hb11 hg11 hz11
        rw [rjcells_put _ _ _ _ (s.records ++ [data])] at hb11
        have hb211 := hb210.kept hg11 (by have := HG.out; simp; omega)
        have HX11 := Lib.hid (And.intro (HX.out.1.grown hg11 (.inr (fun e => by have := HX.out.2.2 g1 e; have := HN8.out; omega))) (grown_new HX.out.2.1 hg11 (by rintro _ ⟨⟩; have := HG.out; omega)))
        clear hb10 hb210 hg11 hz11
        go_wp2_with ((with_reducible refine law_load g1 5 (s.last.map vb) _ _ _ ?_ hb11 ?_ Try.uid ?_ ?_ ?_); rfl; (intro i hi; rw [List.length_map] at hi; rw [rjcells_last _ _ ⟨s.records ++ [data], s.last, s.down⟩ i hi]; simp [List.getD_eq_getElem?_getD, List.getElem?_eq_getElem hi]); rfl; (rw [Try.sid, List.length_map, HOK.out.2.1]))
        refine (rlink_calls s.last data W11 HOK.out.2.1 (by omega)).mono ?_
        rintro _ W12 ⟨rfl, hg12⟩
        have hb12 := hb11.kept hg12 (by simp)
        have hb212 := hb211.kept hg12 (by simp)
        have hll12 := lnk_length s.last data
        obtain ⟨last2, hlast2⟩ : ∃ x, x = lnk s.last data := ⟨_, rfl⟩
        rw [← hlast2] at hll12
        rw [← hlast2]
        have HL2 := Lib.hid (And.intro hlast2 hll12)
        have HX12 := Lib.hid (And.intro (HX11.out.1.grown hg12 (.inl rfl)) (grown_trans HX11.out.2 hg12))
        clear hb11 hb211 hg12 hlast2 hll12
        go_wp2_with ((with_reducible refine law_store g1 5 (last2.map vb) _ _ ?_ ?_ hb12 ?_ ?_ ?_ ?_); rfl; rfl; (rw [rjcells_size _ _ ⟨s.records ++ [data], s.last, s.down⟩ HOK.out.2.1, List.length_map, HL2.out.2]; omega); (intro v hv; obtain ⟨b, _, rfl⟩ := List.mem_map.1 hv; rfl); (rw [Try.sid, List.length_map, HL2.out.2]))
        intro W13 hb13 hg13 hz13
        rw [rjcells_layl _ _ ⟨s.records ++ [data], s.last, s.down⟩ _ (s.records ++ [data]) HOK.out.2.1 HL2.out.2] at hb13
        have hb213 := hb212.kept hg13 (by have := HG.out; simp; omega)
        have HX13 := Lib.hid (And.intro (HX12.out.1.grown hg13 (.inr (fun e => by have := HX.out.2.2 g1 e; have := HN8.out; omega))) (grown_new HX12.out.2 hg13 (by rintro _ ⟨⟩; have := HG.out; omega)))
        have hmore : s.more data = ⟨s.records ++ [data], last2, s.down⟩ := by unfold Jour.more; rw [HL2.out.1, ← HOK.out.2.2.2.2.2]
        rw [hmore] at HF
        clear hb12 hb212 hg13 hz13 hmore
        go_wp2_with (first | ((with_reducible refine law_loadw g1 _ _ _ ?_ hb13 huj htj ?_ ?_); rfl; (rw [rjcells_size _ _ ⟨s.records ++ [data], last2, s.down⟩ HL2.out.2]; exact Try.srjour)) |
          ((with_reducible refine law_storew g2 (rjcells d2 (.slice ad10 n10 cap10) ⟨s.records ++ [data], last2, s.down⟩) _ _ ?_ ?_ hb213 ?_ ?_ ?_ ?_); rfl; rfl; (rw [rjcells_size _ _ ⟨s.records ++ [data], last2, s.down⟩ HL2.out.2, rjcells_size _ _ _ rfl]); exact rjcells_one _ _ _ rfl; (rw [rjcells_size _ _ ⟨s.records ++ [data], last2, s.down⟩ HL2.out.2]; exact Try.srjour)))
        intro W14 hb14 hg14 hz14
        have hG14 := grown_new HX13.out.2 hg14 (by rintro _ ⟨⟩; have := HG.out; omega)
        have hr14 := HX13.out.1.grown hg14 (.inr (fun e => by have := HX.out.2.2 g2 e; have := HN8.out; omega))
        have hr140 : Row W14 0 9 (.slice ad10 n10 cap10) ((s.records ++ [data]).map vs) := by
          rcases hr14 with h | ⟨g, cap, cur, fr, hv, h1, h2⟩
          · exact .inl h
          · exact .inr ⟨g, cap, cur, fr, hv, Nat.zero_le _, h2⟩
        have HE := Lib.hid (HW.out d2 ⟨s.records ++ [data], last2, s.down⟩ _ 0 W14 HF.out hG14 hr140 (fun q hq => .inr (by have := HX.out.2.2 q hq; have := HN8.out; have := HG.out; omega)))
        clear hG14 hg14 hz14 hr14 hr140
        go_wp2_with fail
        refine bodyPost_ret (results_row2 rfl _ _ g2 52 _ _ _ rfl hb14 huj htj (by rw [rjcells_size _ _ ⟨s.records ++ [data], last2, s.down⟩ HL2.out.2]; exact Try.srjour) _ rfl) rfl ?_
        exact HE.out
      · have hwr := HF.out
        rw [if_pos hc2] at hwr
        have t0 : (e2 != 0) = true := by rw [bne_iff_ne]; exact hc2
        by_cases h90 : e2 = 90
        · subst h90
          have HF := Lib.hid (show s.write d data = ({ s with down := true }, d2, 90) from hwr)
          clear hwr
          go_wp2_with ((with_reducible refine law_store1 g1 37 (.bool true) _ _ ?_ ?_ hb6 ?_ ?_ Try.sbool ?_); rfl; rfl; (rw [rjcells_size _ _ _ HOK.out.2.1]; omega); rfl)
          intro W7 hb7 hg7 hz7
          rw [rjcells_setdown _ _ _ _ HOK.out.2.1] at hb7
          have hb27 := hb26.kept hg7 (by have := HG.out; simp; omega)
          have HG7 := Lib.hid (grown_new HG6.out hg7 (by rintro _ ⟨⟩; have := HG.out; omega))
          clear hb6 hb26 hg7 hz7
          go_wp2_with (first | ((with_reducible refine law_loadw g1 _ _ _ ?_ hb7 huj htj ?_ ?_); rfl; (rw [rjcells_size _ _ { s with down := true } HOK.out.2.1]; exact Try.srjour)) |
            ((with_reducible refine law_storew g2 (rjcells d2 (.slice adr nr capr) { s with down := true }) _ _ ?_ ?_ hb27 ?_ ?_ ?_ ?_); rfl; rfl; (rw [rjcells_size _ _ { s with down := true } HOK.out.2.1, rjcells_size _ _ _ rfl]); exact rjcells_one _ _ _ rfl; (rw [rjcells_size _ _ { s with down := true } HOK.out.2.1]; exact Try.srjour)))
          intro W9 hb9 hg9 hz9
          have hG9 := grown_new HG7.out hg9 (by rintro _ ⟨⟩; have := HG.out; omega)
          have HE := Lib.hid (HW.out d2 { s with down := true } _ 90 W9 HF.out hG9 (HOK.out.2.2.2.1.grown hG9 (.inl rfl)) (fun q hq => .inl hq))
          clear hG9 hg9 hz9
          go_wp2_with fail
          refine bodyPost_ret (results_row2 rfl _ _ g2 52 _ _ _ rfl hb9 huj htj (by rw [rjcells_size _ _ { s with down := true } HOK.out.2.1]; exact Try.srjour) _ rfl) rfl ?_
          exact HE.out
        · rw [decide_eq_false h90] at hwr
          have t1 : (e2 == 90) = false := by rw [beq_eq_false_iff_ne]; exact h90
          have HF := Lib.hid hwr
          clear hwr
          go_wp2_with ((with_reducible refine law_store1 g1 37 (.bool false) _ _ ?_ ?_ hb6 ?_ ?_ Try.sbool ?_); rfl; rfl; (rw [rjcells_size _ _ _ HOK.out.2.1]; omega); rfl)
          intro W7 hb7 hg7 hz7
          rw [rjcells_setdown _ _ _ _ HOK.out.2.1] at hb7
          have hb27 := hb26.kept hg7 (by have := HG.out; simp; omega)
          have HG7 := Lib.hid (grown_new HG6.out hg7 (by rintro _ ⟨⟩; have := HG.out; omega))
          clear hb6 hb26 hg7 hz7
          go_wp2_with (first | ((with_reducible refine law_loadw g1 _ _ _ ?_ hb7 huj htj ?_ ?_); rfl; (rw [rjcells_size _ _ { s with down := false } HOK.out.2.1]; exact Try.srjour)) |
            ((with_reducible refine law_storew g2 (rjcells d2 (.slice adr nr capr) { s with down := false }) _ _ ?_ ?_ hb27 ?_ ?_ ?_ ?_); rfl; rfl; (rw [rjcells_size _ _ { s with down := false } HOK.out.2.1, rjcells_size _ _ _ rfl]); exact rjcells_one _ _ _ rfl; (rw [rjcells_size _ _ { s with down := false } HOK.out.2.1]; exact Try.srjour)))
          intro W9 hb9 hg9 hz9
          have hG9 := grown_new HG7.out hg9 (by rintro _ ⟨⟩; have := HG.out; omega)
          have HE := Lib.hid (HW.out d2 { s with down := false } _ e2 W9 HF.out hG9 (HOK.out.2.2.2.1.grown hG9 (.inl rfl)) (fun q hq => .inl hq))
          clear hG9 hg9 hz9
          go_wp2_with fail
          refine bodyPost_ret (results_row2 rfl _ _ g2 52 _ _ _ rfl hb9 huj htj (by rw [rjcells_size _ _ { s with down := false } HOK.out.2.1]; exact Try.srjour) _ rfl) rfl ?_
          exact HE.out
    · have hwr := HR.out.1
      rw [if_pos hc1] at hwr
      have t0 : (e1 != 0) = true := by rw [bne_iff_ne]; exact hc1
      have t2 : (e1 == 0) = false := by rw [beq_eq_false_iff_ne]; exact hc1
      by_cases h90 : e1 = 90
      · subst h90
        have HF := Lib.hid (show s.write d data = ({ s with down := true }, d1, 90) from hwr)
        clear hwr
        go_wp2_with ((with_reducible refine law_store1 g1 37 (.bool true) _ _ ?_ ?_ hb4 ?_ ?_ Try.sbool ?_); rfl; rfl; (rw [rjcells_size _ _ _ HOK.out.2.1]; omega); rfl)
        intro W7 hb7 hg7 hz7
        rw [rjcells_setdown _ _ _ _ HOK.out.2.1] at hb7
        have hb27 := hb24.kept hg7 (by have := HG.out; simp; omega)
        have HG7 := Lib.hid (grown_new HG4.out hg7 (by rintro _ ⟨⟩; have := HG.out; omega))
        clear hb4 hb24 hg7 hz7
        go_wp2_with (first | ((with_reducible refine law_loadw g1 _ _ _ ?_ hb7 huj htj ?_ ?_); rfl; (rw [rjcells_size _ _ { s with down := true } HOK.out.2.1]; exact Try.srjour)) |
          ((with_reducible refine law_storew g2 (rjcells d1 (.slice adr nr capr) { s with down := true }) _ _ ?_ ?_ hb27 ?_ ?_ ?_ ?_); rfl; rfl; (rw [rjcells_size _ _ { s with down := true } HOK.out.2.1, rjcells_size _ _ _ rfl]); exact rjcells_one _ _ _ rfl; (rw [rjcells_size _ _ { s with down := true } HOK.out.2.1]; exact Try.srjour)))
        intro W9 hb9 hg9 hz9
        have hG9 := grown_new HG7.out hg9 (by rintro _ ⟨⟩; have := HG.out; omega)
        have HE := Lib.hid (HW.out d1 { s with down := true } _ 90 W9 HF.out hG9 (HOK.out.2.2.2.1.grown hG9 (.inl rfl)) (fun q hq => .inl hq))
        clear hG9 hg9 hz9
        go_wp2_with fail
        refine bodyPost_ret (results_row2 rfl _ _ g2 52 _ _ _ rfl hb9 huj htj (by rw [rjcells_size _ _ { s with down := true } HOK.out.2.1]; exact Try.srjour) _ rfl) rfl ?_
        exact HE.out
      · rw [decide_eq_false h90] at hwr
        have t1 : (e1 == 90) = false := by rw [beq_eq_false_iff_ne]; exact h90
        have HF := Lib.hid hwr
        clear hwr
        go_wp2_with ((with_reducible refine law_store1 g1 37 (.bool false) _ _ ?_ ?_ hb4 ?_ ?_ Try.sbool ?_); rfl; rfl; (rw [rjcells_size _ _ _ HOK.out.2.1]; omega); rfl)
        intro W7 hb7 hg7 hz7
        rw [rjcells_setdown _ _ _ _ HOK.out.2.1] at hb7
        have hb27 := hb24.kept hg7 (by have := HG.out; simp; omega)
        have HG7 := Lib.hid (grown_new HG4.out hg7 (by rintro _ ⟨⟩; have := HG.out; omega))
        clear hb4 hb24 hg7 hz7
        go_wp2_with (first | ((with_reducible refine law_loadw g1 _ _ _ ?_ hb7 huj htj ?_ ?_); rfl; (rw [rjcells_size _ _ { s with down := false } HOK.out.2.1]; exact Try.srjour)) |
          ((with_reducible refine law_storew g2 (rjcells d1 (.slice adr nr capr) { s with down := false }) _ _ ?_ ?_ hb27 ?_ ?_ ?_ ?_); rfl; rfl; (rw [rjcells_size _ _ { s with down := false } HOK.out.2.1, rjcells_size _ _ _ rfl]); exact rjcells_one _ _ _ rfl; (rw [rjcells_size _ _ { s with down := false } HOK.out.2.1]; exact Try.srjour)))
        intro W9 hb9 hg9 hz9
        have hG9 := grown_new HG7.out hg9 (by rintro _ ⟨⟩; have := HG.out; omega)
        have HE := Lib.hid (HW.out d1 { s with down := false } _ e1 W9 HF.out hG9 (HOK.out.2.2.2.1.grown hG9 (.inl rfl)) (fun q hq => .inl hq))
        clear hG9 hg9 hz9
        go_wp2_with fail
        refine bodyPost_ret (results_row2 rfl _ _ g2 52 _ _ _ rfl hb9 huj htj (by rw [rjcells_size _ _ { s with down := false } HOK.out.2.1]; exact Try.srjour) _ rfl) rfl ?_
        exact HE.out
end Go.Proofs.Yteicjpjniaohhaa
