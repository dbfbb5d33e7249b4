/- The sum of a list of texts: Blocks, Of. -/
import Derived.Test.YteicjpjniaohhaaBlocks
import Derived.Test.YteicjpjniaohhaaTake
set_option linter.unusedVariables false
set_option linter.unusedSimpArgs false
namespace Scv
open Go Go.RowKit
theorem BytesAt.mono {w X : World} (h : ∀ p v, w.cell? p = some v → X.cell? p = some v) {v : Value} {l : List UInt8} (hb : BytesAt w v l) : BytesAt X v l := by
  obtain ⟨ad, cap, hv, hc⟩ := hb
  refine ⟨ad, cap, hv, hc.imp id ?_⟩
  rintro ⟨b, o, ha, hi⟩
  exact ⟨b, o, ha, fun i hl => h _ _ (hi i hl)⟩
theorem ListsAt.mono {w X : World} (h : ∀ p v, w.cell? p = some v → X.cell? p = some v) {v : Value} {vs : List Value} {l : List (List UInt8)} (hb : ListsAt w v vs l) : ListsAt X v vs l := by
  obtain ⟨ad, cap, hv, hc, hd⟩ := hb
  refine ⟨ad, cap, hv, hc.imp id ?_, fun i hi => (hd i hi).mono h⟩
  rintro ⟨b, o, ha, hi⟩
  exact ⟨b, o, ha, fun i hl => h _ _ (hi i hl)⟩
/-- old cells stay -/
theorem cell_grown {w X : World} (h : w.grownBy X none) (p : Addr) (v : Value) (hp : w.cell? p = some v) : X.cell? p = some v := by
  rw [World.cell?_of_block (h.block p.block (block_lt_of_cell hp) (by simp))]; exact hp
end Scv
namespace Go.Proofs.Yteicjpjniaohhaa
open Go.RowKit Go.Shelf Scv
attribute [local go_sem] Oper.semAt_some
theorem blocks_calls (ad : Option Addr) (n cap : Nat) (w : World) :
    Calls Try.prog 58 #[.slice ad n cap] w fun e w' => e = .returned (.func (.func 63) #[] #[.pointer (some ⟨w.heap.size, 0, none⟩)]) ∧ w'.cell? ⟨w.heap.size, 0, none⟩ = some (.slice ad n cap) ∧ w.grownBy w' none ∧ w'.heap.size = w.heap.size + 1 := by
  go_enter Try.func58, Try.ntmps58
  go_wp2_with ((with_reducible refine law_box (.slice ad n cap) rfl ?_))
  intro W hb hg hz
  go_wp2_with fail
  refine bodyPost_ret (results_tmp rfl _ _ _) rfl ?_
  exact ⟨rfl, by rw [hb.cell]; rfl, hg, hz⟩
theorem Try.zid : (Try.prog.info? 29).map (·.zero) = some (some (.agg (u8s (List.replicate 32 0)))) := by kernel_rfl
theorem Try.sid : (Try.prog.info? 29).map (·.size) = some 32 := by kernel_rfl
theorem Try.uid : Try.prog.underlying 29 = some (.array 32 5) := by kernel_rfl
/-- the state behind k blocks -/
def stAt (M : List UInt8) (k : Nat) : St := ((blks (pad M)).take k).foldl comp St.init
theorem blk_length (m : List UInt8) (k : Nat) (h : k < m.length / 64) : (blk m k).length = 64 := by
  unfold blk; simp; omega
theorem foldl_lt : ∀ (l : List (List UInt8)) (s : St), s.lt → (l.foldl comp s).lt
  | [], _, h => h
  | b :: l, s, h => foldl_lt l _ (plus_lt _ _)
theorem stAt_lt (M : List UInt8) (k : Nat) : (stAt M k).lt := foldl_lt _ _ (by simp [St.lt, St.init])
theorem bytes_get (s : St) (q : Nat) (h : q < 32) : s.bytes.getD q 0 = b8 (s.list.getD (q / 4) 0 / 2 ^ (24 - 8 * (q % 4))) := by
  match q, h with
  | 0, _ => rfl
  | 1, _ => rfl
  | 2, _ => rfl
  | 3, _ => exact congrArg b8 (Nat.div_one _).symm
  | 4, _ => rfl
  | 5, _ => rfl
  | 6, _ => rfl
  | 7, _ => exact congrArg b8 (Nat.div_one _).symm
  | 8, _ => rfl
  | 9, _ => rfl
  | 10, _ => rfl
  | 11, _ => exact congrArg b8 (Nat.div_one _).symm
  | 12, _ => rfl
  | 13, _ => rfl
  | 14, _ => rfl
  | 15, _ => exact congrArg b8 (Nat.div_one _).symm
  | 16, _ => rfl
  | 17, _ => rfl
  | 18, _ => rfl
  | 19, _ => exact congrArg b8 (Nat.div_one _).symm
  | 20, _ => rfl
  | 21, _ => rfl
  | 22, _ => rfl
  | 23, _ => exact congrArg b8 (Nat.div_one _).symm
  | 24, _ => rfl
  | 25, _ => rfl
  | 26, _ => rfl
  | 27, _ => exact congrArg b8 (Nat.div_one _).symm
  | 28, _ => rfl
  | 29, _ => rfl
  | 30, _ => rfl
  | 31, _ => exact congrArg b8 (Nat.div_one _).symm
  | n + 32, h => exact absurd h (by omega)
theorem take_set_succ (l : List UInt8) (q N : Nat) (hl : l.length = N) (h : q < N) : (l.take q ++ List.replicate (N - q) 0).set q (l.getD q 0) = l.take (q + 1) ++ List.replicate (N - (q + 1)) 0 := by
  have hq : (l.take q).length = q := by rw [List.length_take]; omega
  rw [List.set_append_right _ _ (by omega), hq, Nat.sub_self, show N - q = (N - (q + 1)) + 1 from by omega, List.replicate_succ, List.set_cons_zero, List.take_succ_eq_append_getElem (by omega)]
  rw [List.append_assoc, List.singleton_append, List.getD_eq_getElem?_getD, List.getElem?_eq_getElem (show q < l.length by omega)]; rfl
set_option maxRecDepth 100000 in
set_option maxHeartbeats 4000000 in
theorem of_calls (v : Value) (vs : List Value) (parts : List (List UInt8)) (w : World) (hread : ListsAt w v vs parts) (hP : parts.length < 1099511627776) (hM : parts.flatten.length < 1099511627776) :
    Calls Try.prog 51 #[v] w fun e w' => e = .returned (.agg (u8s (sha parts.flatten))) ∧ w.grownBy w' none := by
  refine (callsIn_wide (n := 0)).1 (callsIn_of_wp_marks Try.func51 rfl trivial ?_ rfl)
  simp only [Try.ntmps51, List.size_toArray, List.length_cons, List.length_nil, Nat.reduceAdd, Nat.reduceSub, Array.replicate_succ, Array.replicate_zero, List.push_toArray, List.append_toArray, List.nil_append, List.cons_append]
  gi_wp2_with (first | (with_reducible apply ilaw_alloc all_wide _ Try.zid))
  intro W1 hi1 hg1 hz1
  gi_wp2_with (first | ((with_reducible refine ilaw_build all_wide [(0, .int .u32 1779033703), (1, .int .u32 3144134277), (2, .int .u32 1013904242), (3, .int .u32 2773480762), (4, .int .u32 1359893119), (5, .int .u32 2600822924), (6, .int .u32 528734635), (7, .int .u32 1541459225)] (u32s St.init.list) ?_ ?_ ?_); rfl; kernel_rfl) | (with_reducible apply ilaw_alloc all_wide _ Try.zstate))
  intro W2 hs2 hg2 hz2
  obtain ⟨gr, hgr⟩ : ∃ g, g = w.heap.size := ⟨_, rfl⟩
  obtain ⟨gs, hgs⟩ : ∃ g, g = W1.heap.size := ⟨_, rfl⟩
  rw [← hgr] at hi1
  rw [← hgs] at hs2
  rw [← hgr, ← hgs]
  replace hi1 : Blk W1 gr (u8s (List.replicate 32 0)) 29 := hi1
  replace hs2 : Blk W2 gs (u32s (List.replicate 8 0)) 118 := hs2
  have hi2 := hi1.kept hg2 (by simp)
  have hne : gr ≠ gs := by omega
  gi_wp2_with ((with_reducible refine ilaw_store all_wide gs 0 (St.init.list.map vw) _ _ ?_ ?_ hs2 ?_ ?_ ?_ ?_); rfl; rfl; (rw [u32s_size, List.length_map]; exact Nat.le_refl _); (intro v hv; obtain ⟨b, _, rfl⟩ := List.mem_map.1 hv; rfl); exact Try.sstate)
  intro W3 hs3 hg3 hz3
  rw [lay_whole _ _ (by rw [u32s_size, List.length_map]; rfl)] at hs3
  replace hs3 : Blk W3 gs (u32s St.init.list) 118 := hs3
  have hi3 := hi2.kept hg3 (by simpa using hne)
  have G3 : w.grownBy W3 none := grown_new (grown_trans hg1 hg2) hg3 (by intro g e; cases e; omega)
  have hsz3 : gs < W3.heap.size := hs3.lt
  have hw0 : w.heap.size ≤ gr := by omega
  have hw1 : w.heap.size ≤ gs := by omega
  clear hi1 hs2 hi2 hg1 hz1 hg2 hz2 hg3 hz3 hgs
  have HGR := Lib.hid hgr
  clear hgr
  obtain ⟨ad, cap, hv, _⟩ := id hread
  subst hv
  gi_wp2_with fail
  refine ⟨trivial, rfl, (callsIn_wide.2 (blocks_calls _ _ _ _)).mono ?_⟩
  rintro e W4 ⟨rfl, hc4, hg4, hz4⟩
  obtain ⟨gp, hgp⟩ : ∃ g, g = W3.heap.size := ⟨_, rfl⟩
  rw [← hgp] at hc4 hsz3 hz4
  rw [← hgp]
  have hi4 := hi3.kept hg4 (by simp)
  have hs4 := hs3.kept hg4 (by simp)
  have G4 := grown_trans G3 hg4
  have hrp : gr < gp := by have := hi3.lt; omega
  have hwp : w.heap.size ≤ gp := by omega
  have hit := blocks1_iter gp _ vs parts (fun j => j < w.heap.size ∨ j = gp) W4 ⟨hc4, .inr rfl⟩ (fun X hX => hread.mono fun p u hp => hX.cell (cell_grown G4 p u hp) (.inl (block_lt_of_cell hp))) hP hM (fun j hj => by omega)
  clear hs3 hi3 hg4 G3 hgp hc4
  obtain ⟨M, hMM⟩ : ∃ M, M = parts.flatten := ⟨_, rfl⟩
  rw [← hMM] at hit hM
  have HM := Lib.hid hMM
  have HIT := Lib.hid hit
  clear hMM hit
  gi_wp2_with fail
  have hst : ∀ k, k < (pad M).length / 64 → comp (stAt M k) (blk (pad M) k) = stAt M (k + 1) := by
    intro k hk
    have hbl : (blks (pad M)).length = (pad M).length / 64 := by simp [blks]
    unfold stAt
    rw [List.take_succ_eq_append_getElem (by rw [hbl]; exact hk), List.foldl_append]
    simp [blks]
  refine wp_range (gf := 63) (lb := #[.pointer (some ⟨gp, 0, none⟩)]) rfl (fun _ _ => by simp [go_sem]) HIT.out (grown_refl W4 none) (by rintro j (h | rfl); omega; omega) (by rintro k args X rfl; rfl)
    (fun S k X => (∀ j, S j → W4.heap.size ≤ j) ∧ W4.heap.size ≤ X.heap.size ∧ Blk X gs (u32s (stAt M k).list) 118 ∧ Blk X gr (u8s (List.replicate 32 0)) 29 ∧ w.grownBy X none)
    (fun _ _ _ _ => False) ?_ (fun _ => ⟨fun _ _ _ _ h _ => h.elim, fun _ _ _ _ h _ => h.elim⟩) ⟨fun j hj => hj.elim, Nat.le_refl _, hs4, hi4, G4⟩ ?_ ?_ ?_
  · refine ⟨?_, ?_⟩
    · rintro S k X Y ⟨h1, h2, h3, h4, h5⟩ hs
      have hw4 := G4.size
      exact ⟨h1, Nat.le_trans h2 hs.size, hs.blk h3 (fun h => by have := h1 _ h; omega), hs.blk h4 (fun h => by have := h1 _ h; omega), Same.grown h5 hs (fun j hj h => by have := h1 _ h; omega)⟩
    · rintro S k X g ⟨h1, h2, h3, h4, h5⟩ hg
      exact ⟨by rintro j (h | rfl); exact h1 j h; omega, h2, h3, h4, h5⟩
  · rintro l S k args X hl hlX hSl hk ⟨h1, h2, h3, h4, h5⟩ rfl hRd
    gi_wp2_with (with_reducible apply ilaw_alloc (all_round l) _ Try.zblock)
    intro W5 hb5 hg5 hz5
    obtain ⟨gb, hgb⟩ : ∃ g, g = X.heap.size := ⟨_, rfl⟩
    rw [← hgb] at hb5 hz5
    rw [← hgb]
    replace hb5 : Blk W5 gb (u8s zb64) 122 := hb5
    have hbl : (blk (pad M) k).length = 64 := blk_length _ _ hk
    gi_wp2_with ((with_reducible refine ilaw_store (all_round l) gb 0 ((blk (pad M) k).map vb) _ _ ?_ ?_ hb5 ?_ ?_ ?_ ?_); rfl; rfl; (rw [u8s_size, List.length_map, hbl, zb64_length]; omega); (intro v hv; obtain ⟨b, _, rfl⟩ := List.mem_map.1 hv; rfl); (rw [Try.sblock, List.length_map, hbl]))
    intro W6 hb6 hg6 hz6
    rw [lay_whole _ _ (by rw [u8s_size, List.length_map, hbl, zb64_length])] at hb6
    replace hb6 : Blk W6 gb (u8s (blk (pad M) k)) 122 := hb6
    have G6 : X.grownBy W6 none := grown_new hg5 hg6 (by intro g e; cases e; omega)
    have h36 := h3.kept G6 (by simp)
    have h46 := h4.kept G6 (by simp)
    gi_wp2_with fail
    refine ⟨Same.of_grown G6 (fun _ _ => by simp), ?_⟩
    intro X2 hz7 hs7
    have hgbl : gb ≠ l := by omega
    have h37 := hs7.blk h36 (show gs ≠ l by omega)
    have h47 := hs7.blk h46 (show gr ≠ l by omega)
    have hb7 := hs7.blk hb6 hgbl
    have G7 : w.grownBy X2 none := Same.grown (grown_trans h5 G6) hs7 (fun j hj => by have := G4.size; omega)
    have hgb4 : gs ≠ gb := by omega
    have hz8 : X2.heap.size = gb + 1 := by omega
    clear hb5 hg5 hz5 hb6 hg6 hz6 h36 h46 h3 h4 hs7 G6 hRd hz7
    have HGB := Lib.hid hgb
    have HBL := Lib.hid hbl
    clear hgb hbl
    gi_wp2_with fail
    refine ⟨trivial, rfl, (CallsIn.inRound l (callsIn_wide.2 (take_calls _ _ HBL.out gs gb _ _ hgb4 X2 h37 hb7 (stAt_lt _ _)))).mono ?_⟩
    rintro e W8 ⟨rfl, h38, hg8⟩
    gi_wp2_with fail
    refine ⟨?_, h1, ?_, ?_, ?_, ?_⟩
    · refine Same.of_grown hg8 (fun j hj e => ?_)
      cases e
      rcases hj with (h | h) | h
      · omega
      · omega
      · have := h1 _ h; omega
    · have := hg8.size; have := HGB.out; omega
    · rw [← hst k hk]; exact h38
    · exact h47.kept hg8 (by simpa using hne)
    · exact grown_new G7 hg8 (by intro g e; cases e; exact hw1)
  · rintro D S Y hD hSD ⟨h1, h2, h3, h4, h5⟩ hdef
    have hstl : ((stAt M ((pad M).length / 64)).bytes) = sha M := by
      have hbl : (blks (pad M)).length = (pad M).length / 64 := by simp [blks]
      unfold stAt sha
      rw [List.take_of_length_le (by rw [hbl]; exact Nat.le_refl _)]
    have hslt := stAt_lt M ((pad M).length / 64)
    obtain ⟨s, hs⟩ : ∃ s, s = stAt M ((pad M).length / 64) := ⟨_, rfl⟩
    rw [← hs] at hstl h3 hslt
    have HST := Lib.hid hstl
    have H1 := Lib.hid h1
    clear hstl hs hst h1 hSD
    have hsl : s.bytes.length = 32 := by rw [HST.out]; exact sha_length M
    gi_wp2_with (with_reducible apply ilaw_alloc all_wide _ Try.zid)
    intro W5 hb5 hg5 hz5
    obtain ⟨gi, hgi⟩ : ∃ g, g = Y.heap.size := ⟨_, rfl⟩
    rw [← hgi] at hb5
    rw [← hgi]
    have HGI := Lib.hid hgi
    replace hb5 : Blk W5 gi (u8s (List.replicate 32 0)) 29 := hb5
    clear hgi
    gi_wp2_with fail
    gi_loopw [12] (fun i wr => ∃ (q : Nat), q ≤ 32 ∧ i = .int .i64 q ∧ Blk wr gi (u8s (s.bytes.take q ++ List.replicate (32 - q) 0)) 29 ∧ Y.grownBy wr none) (fun i _ => 32 - (intOf i).toNat)
    case atStart => exact ⟨0, by omega, rfl, hb5, hg5⟩
    case round =>
      obtain ⟨q, hq, rfl, hB, hG⟩ := hrel
      clear hb5 hg5 hz5
      by_cases hq32 : q < 32
      · have hql : (q : Int) < 32 := by omega
        have h3' := h3.kept hG (by simp)
        obtain ⟨j, hj⟩ : ∃ j, j = q / 4 := ⟨_, rfl⟩
        obtain ⟨m, hm⟩ : ∃ m, m = q % 4 := ⟨_, rfl⟩
        have cw := h3'.word j (by simp [St.list]; omega)
        obtain ⟨x, hx⟩ : ∃ x, x = s.list.getD j 0 := ⟨_, rfl⟩
        rw [← hx] at cw
        have ej : (q : Int).tdiv 4 = (j : Int) := by rw [Int.tdiv_eq_ediv_of_nonneg (by omega)]; omega
        have em : (q : Int).tmod 4 = (m : Int) := by rw [Int.tmod_eq_emod_of_nonneg (by omega)]; omega
        have lj : (j : Int) < 8 := by omega
        have lm : (m : Int) < 4 := by omega
        have HJ := Lib.hid (And.intro hj (And.intro hm hx))
        clear hj hm hx
        have hcl : q < (u8s (s.bytes.take q ++ List.replicate (32 - q) 0)).size := by rw [u8s_size]; simp [hsl]; omega
        gi_wp2_with ((with_reducible refine ilaw_store1 all_wide gi q (.int .u8 ((x : Int) / 2 ^ (24 - 8 * m) % 256)) _ _ ?_ ?_ hB hcl ?_ Try.su8 ?_); rfl; rfl; rfl)
        intro W6 hb6 hg6 hz6
        have hbyte : (.int .u8 ((x : Int) / 2 ^ (24 - 8 * m) % 256) : Value) = .int .u8 ((s.bytes.getD q 0).toNat : Int) := by
          obtain ⟨hj, hm, hx⟩ := HJ.out
          rw [bytes_get s q hq32, ← hj, ← hm, ← hx]
          unfold b8
          rw [UInt8.toNat_ofNat']
          simp only [Int.natCast_emod, Int.natCast_ediv, Int.natCast_pow]; rfl
        rw [hbyte, u8s_set, take_set_succ s.bytes q 32 (by rw [hsl]) hq32] at hb6
        have hG6 : Y.grownBy W6 none := grown_new hG hg6 (by have := HGI.out; intro g e; cases e; omega)
        clear hB hG hg6 hz6
        gi_wp2_with fail
        go_roundw
        case rel => exact ⟨q + 1, by omega, by go_num, hb6, hG6⟩
        case measure => simp [intOf]; omega
      · obtain rfl : q = 32 := by omega
        have hfin : s.bytes.take 32 ++ List.replicate (32 - 32) 0 = sha M := by rw [List.take_of_length_le (by rw [hsl]; omega), HST.out]; simp
        rw [hfin] at hB
        have hshl := sha_length M
        have h4' := h4.kept hG (by simp)
        gi_wp2_with (first | ((with_reducible refine ilaw_load all_wide gi 0 ((sha M).map vb) _ _ _ ?_ hB ?_ Try.uid ?_ ?_ ?_); rfl; (intro i hi; simp [u8s]); rfl; (rw [Try.sid, List.length_map, hshl])) |
          ((with_reducible refine ilaw_store all_wide gr 0 ((sha M).map vb) _ _ ?_ ?_ h4' ?_ ?_ ?_ ?_); rfl; rfl; (rw [u8s_size, List.length_map, hshl, List.length_replicate]; omega); (intro v hv; obtain ⟨b, _, rfl⟩ := List.mem_map.1 hv; rfl); (rw [Try.sid, List.length_map, hshl])))
        intro W6 hb6 hg6 hz6
        rw [lay_whole _ _ (by rw [u8s_size, List.length_map, hshl, List.length_replicate])] at hb6
        replace hb6 : Blk W6 gr (u8s (sha M)) 29 := hb6
        have hd6 : W6.heap[D]? = some (.deferred (some [])) := by
          have hdl := (Array.getElem?_eq_some_iff.1 hdef).1
          rw [hg6.block D (Nat.lt_of_lt_of_le hdl hG.size) (by simp; omega), hG.block D hdl (by simp)]; exact hdef
        have G8 : w.grownBy W6 none := grown_new (grown_trans h5 hG) hg6 (by intro g e; cases e; exact hw0)
        have hw4 := G4.size
        have hwD : w.heap.size ≤ D := by omega
        have hrD : gr ≠ D := by omega
        gi_wp2_with fail
        refine ⟨by simp, .inl ⟨_, _, rfl, run_takeDeferred hd6, ?_⟩⟩
        refine ⟨.agg (u8s (sha M)), results_cell_row rfl _ _ gr 29 _ _ _ rfl ((World.putObj_heap_other hrD).trans hb6) Try.uid rfl (by rw [Try.sid, u8s_size, hshl]), by rw [HM.out], ?_⟩
        exact Same.grown G8 (Same.putObj (R := fun j => j ≠ D) W6 D _ (by simp)) (fun j hj => by omega)
  · rintro D c S k Y _ _ _ h _
    exact h.elim
end Go.Proofs.Yteicjpjniaohhaa
