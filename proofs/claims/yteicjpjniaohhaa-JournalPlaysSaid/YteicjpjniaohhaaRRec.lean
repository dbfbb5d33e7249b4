/- The reference's record: three bytes of a number, the short sum of a length, a record as it lies there. -/
import Derived.Test.YteicjpjniaohhaaRLink
import Derived.Test.YteicjpjniaohhaaRDisk
set_option linter.unusedVariables false
set_option linter.unusedSimpArgs false
namespace Go.Proofs.Yteicjpjniaohhaa
open Go.RowKit Go.Shelf Scv
set_option maxRecDepth 100000 in
set_option maxHeartbeats 1000000 in
theorem rcount_calls (n : Nat) (hn : n < 16777216) (w : World) :
    Calls Try.prog 53 #[.int .i64 (n : Int)] w fun e w' => e = .returned (vs (be24 n)) ∧ w.grownBy w' none := by
  go_enter Try.func53, Try.ntmps53
  go_wp2_with ((with_reducible refine law_bslice 5 [.int .u8 ((n : Int) / 65536 % 256), .int .u8 ((n : Int) / 256 % 256), .int .u8 ((n : Int) % 256)] Try.ubytes Try.zu8 ?_ ?_ ?_ ?_ ?_ ?_); omega; rfl; omega; (intro v hv; simp only [List.mem_cons, List.not_mem_nil, or_false] at hv; rcases hv with rfl | rfl | rfl <;> rfl); rfl)
  intro W1 hb1 hg1 hz1
  have hbb : BytesAt W1 (.slice (some ⟨w.heap.size, 0, none⟩) 3 3) (be24 n) := by
    have e : u8s (be24 n) = [Value.int .u8 ((n : Int) / 65536 % 256), .int .u8 ((n : Int) / 256 % 256), .int .u8 ((n : Int) % 256)].toArray := by
      have hb : ∀ m : Nat, (vb (b8 m)) = .int .u8 ((m : Int) % 256) := fun m => by
        unfold vb b8
        rw [UInt8.toNat_ofNat']; simp only [Int.natCast_emod]; rfl
      simp only [u8s, be24, List.map_cons, List.map_nil, hb, Int.natCast_ediv]; rfl
    rw [← e] at hb1
    exact hb1.bytes 3
  have hrun := run_bstr (P := Try.prog) hbb Try.ubytes Try.uu8 Try.ustr
  clear hb1 hz1 hbb
  go_wp2_with fail
  go_ret
  exact ⟨rfl, hg1⟩
set_option maxRecDepth 100000 in
set_option maxHeartbeats 1000000 in
theorem rown_calls (last digits : List UInt8) (w : World) (hl : last.length = 32) (hd : digits.length < 16777216) :
    Calls Try.prog 40 #[.agg (u8s last), vs digits] w fun e w' => e = .returned (vs (ownS last digits)) ∧ w.grownBy w' none := by
  obtain ⟨own, hown⟩ : ∃ own, own = forSum [102, 114, 111, 110, 116] [last, digits] := ⟨_, rfl⟩
  have hol : own.length = 32 := by rw [hown]; exact sha_length _
  have hos : ownS last digits = own.take 16 := by rw [hown]; rfl
  rw [hos]
  have HO := Lib.hid (And.intro hown hol)
  have HL := Lib.hid hl
  clear hown hol hl hos
  go_enter Try.func40, Try.ntmps40
  go_wp2_with ((with_reducible refine law_box (.agg (u8s last)) rfl ?_))
  intro W2 hb1 hg1 hz1
  obtain ⟨g1, hg1'⟩ : ∃ g, g = w.heap.size := ⟨_, rfl⟩
  rw [← hg1'] at hb1
  rw [← hg1']
  replace hb1 : Blk W2 g1 (u8s last) 29 := hb1
  clear hg1' hz1
  go_wp2_with ((with_reducible refine law_loadw g1 (u8s last) _ _ ?_ hb1 Try.uid ?_ ?_ ?_); rfl; rfl; (rw [Try.sid, u8s_size, HL.out]))
  refine (text_calls last HL.out W2).mono ?_
  rintro _ W3 ⟨rfl, hg3⟩
  have hG3 := grown_trans hg1 hg3
  clear hb1 hg3 hg1
  go_wp2_with ((with_reducible refine law_bslice 9 [vs last, vs digits] Try.ustrs Try.zstr ?_ ?_ ?_ ?_ ?_ ?_); omega; rfl; omega; (intro v hv; simp only [List.mem_cons, List.not_mem_nil, or_false] at hv; rcases hv with rfl | rfl <;> rfl); rfl)
  intro W4 hb4 hg4 hz4
  have hs4 := StrsAt.two hb4
  have hG4 := grown_trans hG3 hg4
  clear hb4 hg4 hG3 hz4
  go_wp2_with fail
  refine (rfor_calls [102, 114, 111, 110, 116] _ [last, digits] W4 hs4 (by simp) (by simp) (by rw [sized2, HL.out]; omega)).mono ?_
  rintro _ W5 ⟨rfl, hg5⟩
  rw [← HO.out.1]
  have hG5 := grown_trans hG4 hg5
  clear hs4 hg5 hG4
  go_wp2_with fail
  refine (text_calls own HO.out.2 W5).mono ?_
  rintro _ W6 ⟨rfl, hg6⟩
  have hol := HO.out.2
  have hG6 := grown_trans hG5 hg6
  clear hg6 hG5
  go_wp2_with fail
  go_ret
  exact ⟨congrArg Ending.returned (congrArg Value.string (str_extract own 0 16)), hG6⟩
set_option maxRecDepth 100000 in
set_option maxHeartbeats 1000000 in
theorem rrecord_calls (last data : List UInt8) (w : World) (hl : last.length = 32) (hd : data.length < 16777216) :
    Calls Try.prog 41 #[.agg (u8s last), vs data] w fun e w' => e = .returned (vs (recB last data)) ∧ w.grownBy w' none := by
  obtain ⟨n, hn⟩ : ∃ n, n = data.length := ⟨_, rfl⟩
  obtain ⟨own, hown⟩ : ∃ own, own = ownS last (be24 n) := ⟨_, rfl⟩
  obtain ⟨all, hall⟩ : ∃ all, all = lnk last data := ⟨_, rfl⟩
  have hrec : recB last data = ((be24 n ++ own) ++ all.take 16) ++ data := by unfold recB frontS; rw [hown, hall, hn]
  have hol : own.length = 16 := by rw [hown]; exact ownS_length _ _
  have hal : all.length = 32 := by rw [hall]; exact lnk_length _ _
  rw [hrec]
  have hnl : n < 16777216 := by omega
  have h3 : (be24 n).length = 3 := rfl
  have hbnd : (be24 n).length + own.length < 4611686018427387904 ∧ (be24 n ++ own).length + (all.take 16).length < 4611686018427387904 ∧ (be24 n ++ own ++ all.take 16).length + data.length < 4611686018427387904 := by
    simp only [List.length_append, List.length_take]; omega
  have HB := Lib.hid hbnd
  have HO := Lib.hid (And.intro hown (And.intro hall (And.intro hol (And.intro hal hn))))
  have HL := Lib.hid hl
  have hn' : data.length = n := hn.symm
  clear hrec hol hal h3 hbnd hown hall hn hl
  go_enter Try.func41, Try.ntmps41
  go_wp2_with ((with_reducible refine law_box (.agg (u8s last)) rfl ?_))
  intro W1 hb1 hg1 hz1
  obtain ⟨g1, hg1'⟩ : ∃ g, g = w.heap.size := ⟨_, rfl⟩
  rw [← hg1'] at hb1
  rw [← hg1']
  replace hb1 : Blk W1 g1 (u8s last) 29 := hb1
  clear hg1' hz1
  go_wp2_with fail
  refine (rcount_calls n hnl W1).mono ?_
  rintro _ W2 ⟨rfl, hg2⟩
  have hb2 := hb1.kept hg2 (by simp)
  have hG2 := grown_trans hg1 hg2
  clear hb1 hg1 hg2
  go_wp2_with fail
  have hS0 : Blk W2.drew g1 (u8s last) 29 := hb2
  refine wp_region_held_drew (S := fun w' : World => Blk w' g1 (u8s last) 29) (by kernel_rfl) hS0 (fun _ => ?_)
  refine anyH_take 0 (some 9) (v := ?_) rfl rfl (by kernel_rfl) (by kernel_rfl) (by kernel_rfl) (fun _ _ _ h => h) (Or.inl ⟨by rfl, ?_⟩) hS0 ?_
  rotate_left
  · intro w _
    go_simp
    try (with_reducible rfl)
  simp only [Act.put, List.setIfInBounds_toArray, List.set_cons_zero, List.set_cons_succ]
  refine anyH_take 1 (some 10) rfl rfl (by kernel_rfl) (by kernel_rfl) (by kernel_rfl) (fun _ _ _ h => h) (yieldsIf_load rfl rfl g1 0 (last.map vb) _ _ _ rfl (fun _ h => h) (by intro i hi; simp [u8s]) Try.uid rfl (by rw [Try.sid, List.length_map, HL.out])) hS0 ?_
  simp only [Act.put, List.setIfInBounds_toArray, List.set_cons_zero, List.set_cons_succ]
  refine anyH_take 2 (some 11) (v := ?_) rfl rfl (by kernel_rfl) (by kernel_rfl) (by kernel_rfl) (fun _ _ _ h => h) (Or.inl ⟨by rfl, ?_⟩) hS0 ?_
  rotate_left
  · intro w _
    go_simp
    try (with_reducible rfl)
  simp only [Act.put, List.setIfInBounds_toArray, List.set_cons_zero, List.set_cons_succ]
  refine anyH_take 5 (some 14) rfl rfl (by kernel_rfl) (by kernel_rfl) (by kernel_rfl) (fun _ _ _ h => h) (yieldsIf_load rfl rfl g1 0 (last.map vb) _ _ _ rfl (fun _ h => h) (by intro i hi; simp [u8s]) Try.uid rfl (by rw [Try.sid, List.length_map, HL.out])) hS0 ?_
  simp only [Act.put, List.setIfInBounds_toArray, List.set_cons_zero, List.set_cons_succ]
  refine anyH_take 6 (some 15) (v := ?_) rfl rfl (by kernel_rfl) (by kernel_rfl) (by kernel_rfl) (fun _ _ _ h => h) (Or.inl ⟨by rfl, ?_⟩) hS0 ?_
  rotate_left
  · intro w _
    go_simp
    try (with_reducible rfl)
  simp only [Act.put, List.setIfInBounds_toArray, List.set_cons_zero, List.set_cons_succ]
  refine anyH_take 11 (some 20) (v := ?_) rfl rfl (by kernel_rfl) (by kernel_rfl) (by kernel_rfl) (fun _ _ _ h => h) (Or.inl ⟨by rfl, ?_⟩) hS0 ?_
  rotate_left
  · intro w _
    go_simp
    try (with_reducible rfl)
  simp only [Act.put, List.setIfInBounds_toArray, List.set_cons_zero, List.set_cons_succ]
  refine wpAnyH_ready (rs := [3]) (by kernel_rfl) (by simp) ?_
  refine AllReadyH.cons rfl (fun K hK => ?_) AllReadyH.nil
  refine gstep_call (some 12) rfl rfl rfl #[.agg (u8s last), vs (be24 n)] rfl (fun _ => by simp [go_sem]) (rown_calls last (be24 n) _ HL.out (by show 3 < 16777216; omega)) ?_
  rintro _ W3 ⟨rfl, hg3⟩
  rw [← HO.out.1]
  have hS3 : Blk W3 g1 (u8s last) 29 := hS0.kept hg3 (by simp)
  refine ⟨_, rfl, ?_⟩
  refine hK.out _ _ hS3 (fun _ => ?_)
  clear hK K
  simp only [Act.put, List.setIfInBounds_toArray, List.set_cons_zero, List.set_cons_succ]
  refine anyH_take 4 (some 13) rfl rfl (by kernel_rfl) (by kernel_rfl) (by kernel_rfl) (fun _ _ _ h => h) (yieldsIf_sadd rfl rfl (be24 n) own rfl rfl (by kernel_rfl) HB.out.1) hS3 ?_
  simp only [Act.put, List.setIfInBounds_toArray, List.set_cons_zero, List.set_cons_succ]
  refine wpAnyH_ready (rs := [7]) (by kernel_rfl) (by simp) ?_
  refine AllReadyH.cons rfl (fun K hK => ?_) AllReadyH.nil
  refine gstep_call (some 16) rfl rfl rfl #[.agg (u8s last), vs data] rfl (fun _ => by simp [go_sem]) (rlink_calls last data _ HL.out (by omega)) ?_
  rintro _ W4 ⟨rfl, hg4⟩
  rw [← HO.out.2.1]
  have hS4 : Blk W4 g1 (u8s last) 29 := hS3.kept hg4 (by simp)
  refine ⟨_, rfl, ?_⟩
  refine hK.out _ _ hS4 (fun _ => ?_)
  clear hK K
  simp only [Act.put, List.setIfInBounds_toArray, List.set_cons_zero, List.set_cons_succ]
  refine wpAnyH_ready (rs := [8]) (by kernel_rfl) (by simp) ?_
  refine AllReadyH.cons rfl (fun K hK => ?_) AllReadyH.nil
  refine gstep_call (some 17) rfl rfl rfl #[.agg (u8s all)] rfl (fun _ => by simp [go_sem]) (text_calls all HO.out.2.2.2.1 _) ?_
  rintro _ W5 ⟨rfl, hg5⟩
  have hS5 : Blk W5 g1 (u8s last) 29 := hS4.kept hg5 (by simp)
  refine ⟨_, rfl, ?_⟩
  refine hK.out _ _ hS5 (fun _ => ?_)
  clear hK K
  simp only [Act.put, List.setIfInBounds_toArray, List.set_cons_zero, List.set_cons_succ]
  refine anyH_take 9 (some 18) rfl rfl (by kernel_rfl) (by kernel_rfl) (by kernel_rfl) (fun _ _ _ h => h) (yieldsIf_sprefix rfl rfl all 16 rfl rfl (by rw [HO.out.2.2.2.1]; omega) Try.ustr) hS5 ?_
  simp only [Act.put, List.setIfInBounds_toArray, List.set_cons_zero, List.set_cons_succ]
  refine anyH_take 10 (some 19) rfl rfl (by kernel_rfl) (by kernel_rfl) (by kernel_rfl) (fun _ _ _ h => h) (yieldsIf_sadd rfl rfl (be24 n ++ own) (all.take 16) rfl rfl (by kernel_rfl) HB.out.2.1) hS5 ?_
  simp only [Act.put, List.setIfInBounds_toArray, List.set_cons_zero, List.set_cons_succ]
  refine anyH_take 12 (some 21) rfl rfl (by kernel_rfl) (by kernel_rfl) (by kernel_rfl) (fun _ _ _ h => h) (yieldsIf_sadd rfl rfl (be24 n ++ own ++ all.take 16) data rfl rfl (by kernel_rfl) (by have := HB.out.2.2; omega)) hS5 ?_
  simp only [Act.put, List.setIfInBounds_toArray, List.set_cons_zero, List.set_cons_succ]
  refine anyH_take 13 (some 4) (v := ?_) rfl rfl (by kernel_rfl) (by kernel_rfl) (by kernel_rfl) (fun _ _ _ h => h) (Or.inl ⟨by rfl, ?_⟩) hS5 ?_
  rotate_left
  · intro w _
    go_simp
    try (with_reducible rfl)
  simp only [Act.put, List.setIfInBounds_toArray, List.set_cons_zero, List.set_cons_succ]
  refine wpAnyH_done (by kernel_rfl) ?_ _

  have hG5 : w.grownBy W5 none := grown_trans (grown_trans (grown_trans (grown_trans hG2 (grown_drew W2 none)) hg3) hg4) hg5
  go_wp2_with fail
  go_ret
  refine ⟨?_, hG5⟩
  simp only [List.append_assoc]; rfl
end Go.Proofs.Yteicjpjniaohhaa
