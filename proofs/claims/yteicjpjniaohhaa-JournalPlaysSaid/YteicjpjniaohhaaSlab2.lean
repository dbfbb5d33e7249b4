/- The slab: Sync, Cut, Size, Break, Crash, Spoil. -/
import Derived.Test.YteicjpjniaohhaaSlab
namespace Scv
open Go Go.RowKit
/-- a row cut off -/
theorem Row.take {w : World} {base : Nat} {e : TypeId} {ad : Option Addr} {n cap : Nat} {xs : List Value} (h : Row w base e (.slice ad n cap) xs) (k : Nat) (hk : k ≤ n) : Row w base e (.slice ad k cap) (xs.take k) := by
  rcases h with ⟨hv, rfl⟩ | ⟨g', cap', cur, fr, hv, h1, h2, h3, h4, h5, h6, h7⟩
  · cases hv
    obtain rfl : k = 0 := by omega
    exact .inl ⟨rfl, rfl⟩
  · cases hv
    refine .inr ⟨g', cap, cur, fr, ?_, h1, h2, h3, ?_, h5, h6, ?_⟩
    · rw [List.length_take, Nat.min_eq_left hk]
    · rw [List.length_take]; omega
    · rw [List.length_take, Nat.min_eq_left hk, ← h7, List.take_take, Nat.min_eq_left hk]
theorem Row.len {w : World} {base : Nat} {e : TypeId} {ad : Option Addr} {n cap : Nat} {xs : List Value} (h : Row w base e (.slice ad n cap) xs) : n = xs.length ∧ n ≤ cap ∧ cap ≤ maxLen := by
  rcases h with ⟨hv, rfl⟩ | ⟨g', cap', cur, fr, hv, h1, h2, h3, h4, h5, h6, h7⟩
  · cases hv; exact ⟨rfl, Nat.le_refl _, Nat.zero_le _⟩
  · cases hv; exact ⟨rfl, h4, h5⟩
end Scv
namespace Go.Proofs.Yteicjpjniaohhaa
open Go.RowKit Go.Shelf Scv
theorem slab_put1 {w : World} {g : Nat} {v : Value} {d : Disk} (h : Try.SlabAt w g v d) (v' : Value) (b : List UInt8) (hr : Row w 0 5 v' (b.map vb)) (hne : v'.ownBlock ≠ some g) (hok : ({ d with bytes := b } : Disk).ok) :
    Try.SlabAt (w.setCell ⟨g, 1, none⟩ v') g v' { d with bytes := b } :=
  ⟨h.blk.set 1 v', hr.grown (grown_set w g 1 v') (.inr hne), hne, hok⟩
theorem slab_put2 {w : World} {g : Nat} {v : Value} {d : Disk} (h : Try.SlabAt w g v d) (s : Nat) (hok : ({ d with sure := s } : Disk).ok) :
    Try.SlabAt (w.setCell ⟨g, 2, none⟩ (.int .i64 (s : Int))) g v { d with sure := s } :=
  ⟨h.blk.set 2 _, h.row.grown (grown_set w g 2 _) (.inr h.ne), h.ne, hok⟩
theorem slab_put3 {w : World} {g : Nat} {v : Value} {d : Disk} (h : Try.SlabAt w g v d) (s : Int) (hok : ({ d with steps := s } : Disk).ok) :
    Try.SlabAt (w.setCell ⟨g, 3, none⟩ (.int .i64 s)) g v { d with steps := s } :=
  ⟨h.blk.set 3 _, h.row.grown (grown_set w g 3 _) (.inr h.ne), h.ne, hok⟩
theorem set_size (w : World) (p : Addr) (v : Value) : (w.setCell p v).heap.size = w.heap.size := by show (w.heap.modify _ _).size = _; rw [Array.size_modify]
theorem ssync_calls (g : Nat) (v : Value) (d : Disk) (w : World) (h : Try.SlabAt w g v d) :
    Calls Try.prog 36 #[.pointer (some ⟨g, 0, none⟩)] w fun e w' => e = .returned (.int .i64 d.sync.2) ∧ Try.SlabAt w' g v d.sync.1 ∧ w.grownBy w' (some g) ∧ w'.heap.size = w.heap.size := by
  obtain ⟨adv, capv, hvv, _, _⟩ := slab_shape h
  have hfit := h.ok.fits
  have hroom := h.ok.room
  go_enter Try.func36, Try.ntmps36
  by_cases h0 : d.steps = 0
  · have hap : d.sync = (d, 90) := by unfold Disk.sync; rw [if_pos h0]
    have HA := Lib.hid hap
    clear hap hvv
    have H0 := Lib.hid h0
    clear h0
    go_wp2_with fail
    refine (sstep_no g v d _ h H0.out).mono ?_
    rintro e w' ⟨rfl, rfl⟩
    go_wp2_with fail
    refine bodyPost_ret (results_tmp rfl _ _ _) rfl ?_
    rw [HA.out]
    exact ⟨rfl, h, grown_refl w _, rfl⟩
  · have hap : d.sync = ({ d.step with sure := d.bytes.length }, 0) := by unfold Disk.sync; rw [if_neg h0]
    have hok := Disk.sync_ok h.ok
    rw [hap] at hok
    have HA := Lib.hid (And.intro hap hok)
    have H0 := Lib.hid h0
    clear hap hok h0
    go_wp2_with fail
    refine (sstep_yes g v d _ h H0.out).mono ?_
    rintro e w' ⟨rfl, h1, hg1, hz1⟩
    have k1 := (slab_cells h1).2.1
    have k2 := (slab_cells h1).2.2.1
    have f2 := h1.blk.frozen 2
    rw [hvv] at k1
    have HS := Lib.hid (slab_put2 h1 d.bytes.length HA.out.2)
    have HV := Lib.hid hvv
    clear hvv
    have HG := Lib.hid (And.intro (grown_trans hg1 (grown_set w' g 2 (.int .i64 (d.bytes.length : Nat)))) ((set_size w' ⟨g, 2, none⟩ (.int .i64 (d.bytes.length : Nat))).trans hz1))
    go_wp2_with fail
    refine bodyPost_ret (results_tmp rfl _ _ _) rfl ?_
    rw [HA.out.1]
    exact ⟨rfl, HS.out, HG.out.1, HG.out.2⟩
theorem scut_calls (g : Nat) (v : Value) (d : Disk) (k : Nat) (w : World) (h : Try.SlabAt w g v d) (hk : k ≤ d.bytes.length) :
    Calls Try.prog 34 #[.pointer (some ⟨g, 0, none⟩), .int .i64 (k : Int)] w fun e w' => e = .returned (.int .i64 (d.cut k).2) ∧ ∃ v', Try.SlabAt w' g v' (d.cut k).1 ∧ w.grownBy w' (some g) ∧ w'.heap.size = w.heap.size ∧ v'.ownBlock = v.ownBlock := by
  obtain ⟨adv, capv, hvv, hnc, hcm⟩ := slab_shape h
  obtain ⟨c0, c1, c2, c3⟩ := slab_cells h
  have hfit := h.ok.fits
  have hroom := h.ok.room
  have hsure := h.ok.sure
  obtain ⟨n, hn⟩ : ∃ n, n = d.bytes.length := ⟨_, rfl⟩
  rw [← hn] at hfit hvv hk hsure hnc
  rw [hvv] at c1
  unfold maxLen at hcm
  go_enter Try.func34, Try.ntmps34
  have hk' : (k : Int) ≤ n := by omega
  by_cases h0 : d.steps = 0
  · have hap : d.cut k = (d, 90) := by unfold Disk.cut; rw [if_pos h0]
    have HA := Lib.hid hap
    have HV := Lib.hid (And.intro hvv hn)
    have H0 := Lib.hid h0
    clear h0 hap hvv hn
    go_wp2_with fail
    refine (sstep_no g v d _ h H0.out).mono ?_
    rintro e w' ⟨rfl, rfl⟩
    go_wp2_with fail
    refine bodyPost_ret (results_tmp rfl _ _ _) rfl ?_
    rw [HA.out]
    exact ⟨rfl, v, h, grown_refl w _, rfl, rfl⟩
  · have hap : d.cut k = ({ d.step with bytes := d.bytes.take k, sure := min d.sure k }, 0) := by unfold Disk.cut; rw [if_neg h0]
    have hok := Disk.cut_ok h.ok k
    rw [hap] at hok
    have HA := Lib.hid (And.intro hap hok)
    have HV := Lib.hid (And.intro hvv hn)
    have H0 := Lib.hid h0
    clear h0 hap hok hvv hn
    go_wp2_with fail
    refine (sstep_yes g v d _ h H0.out).mono ?_
    rintro e w' ⟨rfl, h1, hg1, hz1⟩
    obtain ⟨k0, k1, k2, k3⟩ := slab_cells h1
    have f1 := h1.blk.frozen 1
    have f2 := h1.blk.frozen 2
    rw [HV.out.1] at k1
    have hke : (k : Int) ≤ capv := by omega
    have hr1 := h1.row
    rw [HV.out.1] at hr1
    have hrt := hr1.take k hk
    rw [← List.map_take] at hrt
    have fin : ∀ (e : Ending) (s : Nat), s = min d.sure k → e = .returned (.int .i64 (d.cut k).2) → (e = .returned (.int .i64 (d.cut k).2) ∧ ∃ v', Try.SlabAt ((w'.setCell ⟨g, 1, none⟩ (.slice adv k capv)).setCell ⟨g, 2, none⟩ (.int .i64 (s : Int))) g v' (d.cut k).1 ∧
        w.grownBy ((w'.setCell ⟨g, 1, none⟩ (.slice adv k capv)).setCell ⟨g, 2, none⟩ (.int .i64 (s : Int))) (some g) ∧ ((w'.setCell ⟨g, 1, none⟩ (.slice adv k capv)).setCell ⟨g, 2, none⟩ (.int .i64 (s : Int))).heap.size = w.heap.size ∧ v'.ownBlock = v.ownBlock) := by
      rintro e s rfl he
      have hne : (Value.slice adv k capv).ownBlock ≠ some g := fun e => h1.ne (by rw [HV.out.1]; cases adv <;> exact e)
      have hg2 := grown_set w' g 1 (.slice adv k capv)
      have hg3 := grown_set (w'.setCell ⟨g, 1, none⟩ (.slice adv k capv)) g 2 (.int .i64 ((min d.sure k : Nat) : Int))
      refine ⟨he, .slice adv k capv, ?_, grown_trans (grown_trans hg1 hg2) hg3, by rw [set_size, set_size, hz1], by rw [HV.out.1]; cases adv <;> rfl⟩
      rw [HA.out.1]
      exact ⟨(h1.blk.set 1 _).set 2 _, (hrt.grown hg2 (.inr hne)).grown hg3 (.inr hne), hne, HA.out.2⟩
    have FIN := Lib.hid fin
    have hds : d.step.sure = d.sure := rfl
    clear c0 c1 c2 c3 hr1 hrt fin
    rw [hds] at k2
    go_wp2_with fail
    all_goals
      refine bodyPost_ret (results_tmp rfl _ _ _) rfl ?_
      exact FIN.out _ _ (by omega) (by rw [HA.out.1]; rfl)
theorem ssize_calls (g : Nat) (v : Value) (d : Disk) (w : World) (h : Try.SlabAt w g v d) :
    Calls Try.prog 18 #[.pointer (some ⟨g, 0, none⟩)] w fun e w' => e = .returned (.tuple #[.int .i64 (d.bytes.length : Int), .int .i64 (d.sure : Int)]) ∧ ∃ n, w' = w.drewN n := by
  obtain ⟨adv, capv, hvv, hnc, hcm⟩ := slab_shape h
  obtain ⟨c0, c1, c2, c3⟩ := slab_cells h
  rw [hvv] at c1
  have HV := Lib.hid hvv
  clear hvv
  go_enter Try.func18, Try.ntmps18
  go_wp2_with fail
  go_quiet (fail)
  go_wp2_with fail
  go_ret2
  exact ⟨rfl, _, rfl⟩
theorem sbreak_calls (g : Nat) (v : Value) (d : Disk) (n : Int) (w : World) (h : Try.SlabAt w g v d) (hn : n ≤ 9223372036854775807) :
    Calls Try.prog 24 #[.pointer (some ⟨g, 0, none⟩), .int .i64 n] w fun e w' => e = .returned (.tuple #[]) ∧ Try.SlabAt w' g v (d.brk n) ∧ w.grownBy w' (some g) ∧ w'.heap.size = w.heap.size := by
  obtain ⟨c0, c1, c2, c3⟩ := slab_cells h
  have f3 := h.blk.frozen 3
  have fin : ∀ m : Int, m = max n (-1) → (Try.SlabAt (w.setCell ⟨g, 3, none⟩ (.int .i64 m)) g v (d.brk n) ∧ w.grownBy (w.setCell ⟨g, 3, none⟩ (.int .i64 m)) (some g) ∧ (w.setCell ⟨g, 3, none⟩ (.int .i64 m)).heap.size = w.heap.size) := by
    rintro m rfl
    exact ⟨slab_put3 h _ (Disk.brk_ok h.ok n hn), grown_set _ _ _ _, set_size _ _ _⟩
  have FIN := Lib.hid fin
  clear fin c0 c1 c2
  go_enter Try.func24, Try.ntmps24
  go_wp2_with fail
  all_goals
    refine ⟨rfl, .tuple #[], results_none rfl _ _ _, rfl, ?_⟩
    exact FIN.out _ (by omega)
theorem sspoil_no (g : Nat) (v : Value) (d : Disk) (k : Int) (x : UInt8) (w : World) (h : Try.SlabAt w g v d) (hk : k < 0 ∨ d.bytes.length ≤ k) :
    Calls Try.prog 28 #[.pointer (some ⟨g, 0, none⟩), .int .i64 k, .int .u8 (x.toNat : Int)] w fun e w' => e = .returned (.int .i64 1) ∧ w = w' := by
  obtain ⟨adv, capv, hvv, hnc, hcm⟩ := slab_shape h
  obtain ⟨c0, c1, c2, c3⟩ := slab_cells h
  rw [hvv] at c1
  have HV := Lib.hid hvv
  clear hvv
  go_enter Try.func28, Try.ntmps28
  by_cases h0 : k < 0
  · go_wp2_with fail
    go_ret
    exact ⟨rfl, rfl⟩
  · have h1 : (d.bytes.length : Int) ≤ k := by omega
    go_wp2_with fail
    go_ret
    exact ⟨rfl, rfl⟩
theorem sspoil_yes (g : Nat) (v : Value) (d : Disk) (k : Nat) (x : UInt8) (w : World) (h : Try.SlabAt w g v d) (hk : k < d.bytes.length) :
    Calls Try.prog 28 #[.pointer (some ⟨g, 0, none⟩), .int .i64 (k : Int), .int .u8 (x.toNat : Int)] w fun e w' => e = .returned (.int .i64 0) ∧ Try.SlabAt w' g v (d.spoil k x) ∧ Near g v w w' ∧ w'.heap.size = w.heap.size := by
  obtain ⟨c0, c1, c2, c3⟩ := slab_cells h
  have hsp := Disk.spoil_ok h.ok k x
  rcases h.row with ⟨rfl, he⟩ | ⟨gb, cap, cur, fr, hvv, _, hblk, hfr, hnc, hcm, hcs, htake⟩
  · exfalso; have : d.bytes = [] := by simpa using he
    rw [this] at hk; exact absurd hk (by simp)
  · rw [List.length_map] at hvv hnc htake
    rw [hvv] at c1
    have hkc : k < cur.size := by omega
    have cb : w.cell? ⟨gb, k, none⟩ = some cur[k] := by simp [World.cell?, hblk, Array.getElem?_eq_getElem hkc]
    have fb : w.frozen? ⟨gb, k, none⟩ = false := by
      simp only [World.frozen?, hblk]
      rcases hfr with ⟨h, h'⟩ | h
      · simp [h, h']
      · simp; omega
    obtain ⟨n, hn⟩ : ∃ n, n = d.bytes.length := ⟨_, rfl⟩
    rw [← hn] at c1 hk hnc
    have hkn : (k : Int) < n := by omega
    have HV := Lib.hid (And.intro hvv hn)
    clear hvv hn
    have hset : (w.setCell ⟨gb, k, none⟩ (vb x)).heap[gb]? = some (.cells (cur.setIfInBounds k (vb x)) 5 fr) := by
      obtain ⟨hlt, hk⟩ := Array.getElem?_eq_some_iff.1 hblk
      show (w.heap.modify gb _)[gb]? = _
      rw [Array.getElem?_eq_getElem (by rw [Array.size_modify]; exact hlt), Array.getElem_modify_self, hk]
      rfl
    have hng : some g ≠ some gb := fun e => h.ne (by rw [HV.out.1]; exact e.symm)
    have hg1 := grown_set w gb k (vb x)
    have fin : Try.SlabAt (w.setCell ⟨gb, k, none⟩ (vb x)) g v (d.spoil k x) ∧ Near g v w (w.setCell ⟨gb, k, none⟩ (vb x)) := by
      refine ⟨⟨h.blk.kept hg1 hng, ?_, h.ne, hsp⟩, Same.of_grown hg1 (fun j hj => ?_)⟩
      · rw [HV.out.1]
        refine .inr ⟨gb, cap, _, fr, ?_, Nat.zero_le _, hset, by simpa using hfr, ?_, hcm, by simpa using hcs, ?_⟩
        · simp [Disk.spoil]
        · simp [Disk.spoil]; have := HV.out.2; omega
        · simp only [Disk.spoil, List.length_map, List.length_set, Array.toList_setIfInBounds]
          rw [List.take_set, htake, List.map_set]
      · exact fun e => hj.2 (by rw [HV.out.1]; exact e.symm)
    have FIN := Lib.hid fin
    clear fin hset hsp
    go_enter Try.func28, Try.ntmps28
    go_wp2_with fail
    refine bodyPost_ret (results_tmp rfl _ _ _) rfl ?_
    exact ⟨rfl, FIN.out.1, FIN.out.2, set_size _ _ _⟩
set_option maxRecDepth 100000 in
theorem scrash_calls (g : Nat) (v : Value) (d : Disk) (k : Int) (w : World) (h : Try.SlabAt w g v d) (hk : k ≤ 9223372036854775807) (hk2 : -9223372036854775808 ≤ k) :
    Calls Try.prog 26 #[.pointer (some ⟨g, 0, none⟩), .int .i64 k] w fun e w' => e = .returned (.tuple #[]) ∧ ∃ v', Try.SlabAt w' g v' (d.crash k) ∧ w.grownBy w' (some g) ∧ w'.heap.size = w.heap.size ∧ v'.ownBlock = v.ownBlock := by
  obtain ⟨adv, capv, hvv, hnc, hcm⟩ := slab_shape h
  obtain ⟨c0, c1, c2, c3⟩ := slab_cells h
  have f1 := h.blk.frozen 1
  have f2 := h.blk.frozen 2
  have f3 := h.blk.frozen 3
  have hfit := h.ok.fits
  have hroom := h.ok.room
  have hsure := h.ok.sure
  obtain ⟨n, hn⟩ : ∃ n, n = d.bytes.length := ⟨_, rfl⟩
  rw [← hn] at hfit hvv hsure hnc
  rw [hvv] at c1
  unfold maxLen at hcm
  have HV := Lib.hid (And.intro hvv hn)
  clear hvv hn
  obtain ⟨s, hs⟩ : ∃ s, s = d.sure := ⟨_, rfl⟩
  rw [← hs] at c2 hsure
  have e1 : IntKind.i64.wrap ((n : Int) - s) = n - s := IntWalk.i64_in _ (by omega)
  obtain ⟨m, hm⟩ : ∃ m : Int, (if (n : Int) - s < k then (n : Int) - s else k) = m := ⟨_, rfl⟩
  obtain ⟨q, hq⟩ : ∃ q : Int, (if 0 < m then m else 0) = q := ⟨_, rfl⟩
  obtain ⟨L, hL⟩ : ∃ L, L = d.left k := ⟨_, rfl⟩
  have hLn : L ≤ n := by rw [hL, HV.out.2]; exact Disk.left_le h.ok k
  have hsq : (s : Int) + q = L := by
    rw [hL]; unfold Disk.left; rw [← hs, ← HV.out.2, ← hq, ← hm]; split <;> split <;> omega
  have e4 : IntKind.i64.wrap ((s : Int) + q) = L := by rw [hsq]; exact IntWalk.i64_in _ (by omega)
  have hLc : (L : Int) ≤ capv := by omega
  have hLc' : ¬ capv < L := by omega
  have HL := Lib.hid (And.intro hL hs)
  clear hL hs hsq
  go_enter Try.func26, Try.ntmps26
  go_wp2_with fail
  go_still_tail 24, (by kernel_rfl)
  go_wp2_with fail
  have hne : (Value.slice adv L capv).ownBlock ≠ some g := fun e => h.ne (by rw [HV.out.1]; cases adv <;> exact e)
  obtain ⟨W1, hW1⟩ : ∃ W1, W1 = w.setCell ⟨g, 1, none⟩ (.slice adv L capv) := ⟨_, rfl⟩
  obtain ⟨W2, hW2⟩ : ∃ W2, W2 = W1.setCell ⟨g, 2, none⟩ (.int .i64 (L : Int)) := ⟨_, rfl⟩
  obtain ⟨W3, hW3⟩ : ∃ W3, W3 = W2.setCell ⟨g, 3, none⟩ (.int .i64 (-1)) := ⟨_, rfl⟩
  rw [← hW1, ← hW2, ← hW3]
  have g1 : w.grownBy W1 (some g) := by rw [hW1]; exact grown_set _ _ _ _
  have g2 : W1.grownBy W2 (some g) := by rw [hW2]; exact grown_set _ _ _ _
  have g3 : W2.grownBy W3 (some g) := by rw [hW3]; exact grown_set _ _ _ _
  have hr := h.row
  rw [HV.out.1] at hr
  have hrt := hr.take L (by first | exact hLn | (rw [← HV.out.2]; exact hLn))
  rw [← List.map_take] at hrt
  have hb : Blk W3 g #[.int .i64 (d.room : Int), .slice adv L capv, .int .i64 (L : Int), .int .i64 (-1)] 76 := by
    rw [hW3, hW2, hW1]; exact ((h.blk.set 1 _).set 2 _).set 3 _
  have hcr := Disk.crash_ok h.ok k
  refine ⟨rfl, .tuple #[], results_none rfl _ _ _, rfl, .slice adv L capv, ?_, grown_trans (grown_trans (b := W2) (grown_trans g1 g2) g3) (grown_drew W3 _), ?_, ?_⟩
  · have hd : d.crash k = ⟨d.room, d.bytes.take L, L, -1⟩ := by unfold Disk.crash; rw [← HL.out.1]
    rw [hd] at hcr ⊢
    exact ⟨hb, (((hrt.grown g1 (.inr hne)).grown g2 (.inr hne)).grown g3 (.inr hne)).grown (grown_drew W3 none) (.inl rfl), hne, hcr⟩
  · show W3.heap.size = _
    rw [hW3, set_size, hW2, set_size, hW1, set_size]
  · rw [HV.out.1]; cases adv <;> rfl
end Go.Proofs.Yteicjpjniaohhaa
