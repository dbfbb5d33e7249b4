/- The slab: its methods, walked. -/
import Derived.Test.YteicjpjniaohhaaFor
import Derived.Test.YteicjpjniaohhaaDisk
set_option linter.unusedVariables false
set_option linter.unusedSimpArgs false
namespace Scv
open Go Go.RowKit
/-- a slab at a block: its bytes are the slice v -/
structure SlabAt (T E : TypeId) (w : World) (g : Nat) (v : Value) (d : Disk) : Prop where
  blk : Blk w g #[.int .i64 (d.room : Int), v, .int .i64 (d.sure : Int), .int .i64 d.steps] T
  row : Row w 0 E v (d.bytes.map vb)
  ne : v.ownBlock ≠ some g
  ok : d.ok
end Scv
namespace Go.Proofs.Yteicjpjniaohhaa
open Go.RowKit Go.Shelf Scv
abbrev Try.SlabAt := Scv.SlabAt 76 5
theorem Try.sslab : (Try.prog.info? 76).map (·.size) = some 4 := by kernel_rfl
theorem Try.sint : (Try.prog.info? 3).map (·.size) = some 1 := by kernel_rfl
theorem snew_calls (room : Nat) (hr : room ≤ 4194304) (w : World) :
    Calls Try.prog 11 #[.int .i64 (room : Int)] w fun e w' => e = .returned (.tuple #[.pointer (some ⟨w.heap.size, 0, none⟩), .int .i64 0]) ∧ Try.SlabAt w' w.heap.size (.slice none 0 0) (Disk.new room) ∧ w.grownBy w' none := by
  go_enter Try.func11, Try.ntmps11
  have h1 : ¬ (room : Int) < 0 := by omega
  have h2 : ¬ (4194304 : Int) < room := by omega
  go_wp2_with (first | ((with_reducible refine law_build [(0, .int .i64 (room : Int)), (3, .int .i64 (-1))] #[.int .i64 (room : Int), .slice none 0 0, .int .i64 0, .int .i64 (-1)] ?_ ?_ ?_); rfl; kernel_rfl) | ((with_reducible refine law_box _ ?_ ?_); rfl))
  refine bodyPost_ret (results_tmp2 rfl _ _ _) rfl ?_
  exact ⟨rfl, ⟨Blk.new _ _ _, Row.nil _ _ _, by simp [Value.ownBlock], Disk.new_ok hr⟩, World.grownBy_alloc _ _ none⟩
theorem slab_cells {w : World} {g : Nat} {v : Value} {d : Disk} (h : Try.SlabAt w g v d) : w.cell? ⟨g, 0, none⟩ = some (.int .i64 (d.room : Int)) ∧ w.cell? ⟨g, 1, none⟩ = some v ∧ w.cell? ⟨g, 2, none⟩ = some (.int .i64 (d.sure : Int)) ∧
    w.cell? ⟨g, 3, none⟩ = some (.int .i64 d.steps) := by
  simp only [h.blk.cell]
  exact ⟨rfl, rfl, rfl, rfl⟩
theorem sstep_calls (g : Nat) (v : Value) (d : Disk) (w : World) (h : Try.SlabAt w g v d) :
    Calls Try.prog 37 #[.pointer (some ⟨g, 0, none⟩)] w fun e w' => (d.steps = 0 ∧ e = .returned (.bool false) ∧ w' = w) ∨ (d.steps ≠ 0 ∧ e = .returned (.bool true) ∧ Try.SlabAt w' g v d.step ∧ w.grownBy w' (some g) ∧ w'.heap.size = w.heap.size) := by
  obtain ⟨c0, c1, c2, c3⟩ := slab_cells h
  have hb := h.blk
  have hl := h.ok.low
  have hh := h.ok.high
  go_enter Try.func37, Try.ntmps37
  by_cases h0 : d.steps = 0
  · have ht : (d.steps == 0) = true := by rw [beq_iff_eq]; exact h0
    go_wp2_with fail
    refine bodyPost_ret (results_tmp rfl _ _ _) rfl ?_
    exact .inl ⟨h0, rfl, rfl⟩
  · have ht : (d.steps == 0) = false := by rw [beq_eq_false_iff_ne]; exact h0
    have hw : IntKind.i64.wrap (d.steps - 1) = d.steps - 1 := IntWalk.i64_in _ (by omega)
    have hs := Disk.step_ok h.ok
    have fin : ∀ n : Int, n = max (d.steps - 1) (-1) → Try.SlabAt (w.setCell ⟨g, 3, none⟩ (.int .i64 n)) g v d.step ∧ w.grownBy (w.setCell ⟨g, 3, none⟩ (.int .i64 n)) (some g) ∧ (w.setCell ⟨g, 3, none⟩ (.int .i64 n)).heap.size = w.heap.size := by
      rintro n rfl
      have hg := grown_set w g 3 (.int .i64 (max (d.steps - 1) (-1)))
      exact ⟨⟨hb.set 3 _, h.row.grown hg (.inr h.ne), h.ne, hs⟩, hg, by show (w.heap.modify _ _).size = _; rw [Array.size_modify]⟩
    have f3 := hb.frozen 3
    have H0 := Lib.hid h0
    clear c0 c1 c2 h0
    go_wp2_with fail
    all_goals
      refine bodyPost_ret (results_tmp rfl _ _ _) rfl ?_
      exact .inr ⟨H0.out, rfl, fin _ (by omega)⟩
/-- what a method of the slab may change: its own block and its bytes -/
def Near (g : Nat) (v : Value) (w w' : World) : Prop := Same (fun j => j ≠ g ∧ v.ownBlock ≠ some j) w w'
theorem sbytes_calls (g : Nat) (v : Value) (d : Disk) (w : World) (h : Try.SlabAt w g v d) :
    Calls Try.prog 17 #[.pointer (some ⟨g, 0, none⟩)] w fun e w' => ∃ u, e = .returned u ∧ Row w' w.heap.size 5 u (d.bytes.map vb) ∧ w.grownBy w' none := by
  have hr := h.row
  have hro := hr.one
  have hfit := h.ok.fits
  have hroom := h.ok.room
  go_enter Try.func17, Try.ntmps17
  go_wp2_with ((with_reducible refine law_bslice0 5 Try.ubytes Try.su8 ?_))
  intro v1 W1 hr1 hg1 ho1
  have c1 : W1.cell? ⟨g, 1, none⟩ = some v := by rw [(h.blk.kept hg1 (by simp)).cell]; rfl
  have hr' := hr.grown hg1 (.inl rfl)
  go_wp2_with ((with_reducible refine law_append w.heap.size 5 (.int .u8 0) Try.ubytes Try.iu8 rfl v1 v [] (d.bytes.map vb) ?_ ?_ hr1 hr'.src ?_ ?_ ?_ ?_); rfl; rfl; (intro u hu; obtain ⟨b, _, rfl⟩ := List.mem_map.1 hu; rfl); (simp; omega); exact hg1.size)
  intro v2 W2 hr2 hg2 hn2
  go_wp2_with fail
  refine bodyPost_ret (results_tmp rfl _ _ _) rfl ?_
  exact ⟨v2, rfl, hr2, grown_new hg1 hg2 (fun g hg => by rw [ho1] at hg; cases hg; exact Nat.le_refl _)⟩
theorem slab_drewN {w : World} {g : Nat} {v : Value} {d : Disk} (h : Try.SlabAt w g v d) (n : Nat) : Try.SlabAt (w.drewN n) g v d := ⟨h.blk, h.row, h.ne, h.ok⟩
theorem slab_shape {w : World} {g : Nat} {v : Value} {d : Disk} (h : Try.SlabAt w g v d) : ∃ ad cap, v = .slice ad d.bytes.length cap ∧ d.bytes.length ≤ cap ∧ cap ≤ maxLen := by
  rcases h.row with ⟨rfl, he⟩ | ⟨g', cap, cur, fr, rfl, _, _, _, h1, h2, _⟩
  · have : d.bytes = [] := by simpa using he
    exact ⟨none, 0, by rw [this]; rfl, by rw [this]; simp, by unfold maxLen; omega⟩
  · rw [List.length_map] at h1
    exact ⟨_, cap, by rw [List.length_map], h1, h2⟩
theorem sstep_no (g : Nat) (v : Value) (d : Disk) (w : World) (h : Try.SlabAt w g v d) (h0 : d.steps = 0) :
    Calls Try.prog 37 #[.pointer (some ⟨g, 0, none⟩)] w fun e w' => e = .returned (.bool false) ∧ w = w' :=
  (sstep_calls g v d w h).mono fun e w' hh => by
    rcases hh with ⟨_, he, hw⟩ | ⟨hn, _⟩
    · exact ⟨he, hw.symm⟩
    · exact absurd h0 hn
theorem sstep_yes (g : Nat) (v : Value) (d : Disk) (w : World) (h : Try.SlabAt w g v d) (h0 : d.steps ≠ 0) :
    Calls Try.prog 37 #[.pointer (some ⟨g, 0, none⟩)] w fun e w' => e = .returned (.bool true) ∧ Try.SlabAt w' g v d.step ∧ w.grownBy w' (some g) ∧ w'.heap.size = w.heap.size :=
  (sstep_calls g v d w h).mono fun e w' hh => by
    rcases hh with ⟨hn, _⟩ | ⟨_, h1⟩
    · exact absurd hn h0
    · exact h1
/-- the slab's bytes are another slice -/
theorem slab_put {w W : World} {g : Nat} {v v' : Value} {d : Disk} {b : List UInt8} (h : Try.SlabAt w g v d) (hr : Row w 0 5 v' (b.map vb)) (hne : v'.ownBlock ≠ some g) (hok : ({ d with bytes := b } : Disk).ok)
    (hb : Blk W g ((#[.int .i64 (d.room : Int), v, .int .i64 (d.sure : Int), .int .i64 d.steps] : Array Value).setIfInBounds 1 v') 76) (hg : w.grownBy W (some g)) : Try.SlabAt W g v' { d with bytes := b } :=
  ⟨hb, hr.grown hg (.inr hne), hne, hok⟩
theorem _root_.Scv.Row.shape {w : World} {base : Nat} {e : TypeId} {v : Value} {xs : List Value} (h : Row w base e v xs) : ∃ ad len cap, v = .slice ad len cap := by
  rcases h with ⟨rfl, rfl⟩ | ⟨g', cap, cur, fr, rfl, _⟩
  · exact ⟨none, 0, 0, rfl⟩
  · exact ⟨_, _, cap, rfl⟩
theorem sappend_calls (g : Nat) (v : Value) (d : Disk) (x : Value) (b : List UInt8) (hbl : b.length < 1099511627776) (w : World) (h : Try.SlabAt w g v d) (hx : BytesAt w x b) (hxg : b ≠ [] → x.ownBlock ≠ some g) :
    Calls Try.prog 16 #[.pointer (some ⟨g, 0, none⟩), x] w fun e w' => e = .returned (.int .i64 (d.append b).2) ∧ ∃ v', Try.SlabAt w' g v' (d.append b).1 ∧ Near g v w w' ∧ (∀ k, v'.ownBlock = some k → v.ownBlock = some k ∨ w.heap.size ≤ k) := by
  obtain ⟨adx, capx, hxv, _⟩ := id hx
  obtain ⟨adv, capv, hvv, _, _⟩ := slab_shape h
  obtain ⟨c0, c1, c2, c3⟩ := slab_cells h
  have hfit := h.ok.fits
  have hroom := h.ok.room
  obtain ⟨n, hn⟩ : ∃ n, n = d.bytes.length := ⟨_, rfl⟩
  obtain ⟨m, hm⟩ : ∃ m, m = b.length := ⟨_, rfl⟩
  rw [← hn] at hfit hvv
  rw [← hm] at hbl hxv
  subst hxv
  rw [hvv] at c1
  go_enter Try.func16, Try.ntmps16
  have e1 : IntKind.i64.wrap ((d.room : Int) - n) = d.room - n := IntWalk.i64_in _ (by omega)
  by_cases hfull : d.room < n + m
  · have ht : decide ((m : Int) > d.room - n) = true := by rw [decide_eq_true_eq]; omega
    have ht2 : (d.room : Int) - n < m := by omega
    have hap : d.append b = (d, 3) := by unfold Disk.append; rw [if_pos (by omega)]
    have HP := Lib.hid (And.intro hap (And.intro hvv (And.intro hn hm)))
    clear hap hvv hn hm
    go_wp2_with fail
    go_quiet (fail)
    go_wp2_with fail
    refine bodyPost_ret (results_tmp rfl _ _ _) rfl ?_
    rw [HP.out.1]
    exact ⟨rfl, v, slab_drewN h _, Same.of_grown (grown_drewN w _ none) (fun _ _ => by simp), fun k hk => .inl hk⟩
  · have ht : decide ((m : Int) > d.room - n) = false := by rw [decide_eq_false_iff_not]; omega
    have ht2 : (m : Int) ≤ (d.room : Int) - n := by omega
    have HP := Lib.hid (And.intro hvv (And.intro hn hm))
    have HX := Lib.hid hx
    have HXG := Lib.hid hxg
    have HS := Lib.hid h
    by_cases h0 : d.steps = 0
    · have hap : d.append b = (d, 90) := by unfold Disk.append; rw [if_neg (by omega), if_pos h0]
      have HA := Lib.hid hap
      have H0 := Lib.hid h0
      clear hap hvv hn hm h0 h hx hxg
      go_wp2_with fail
      go_quiet (fail)
      go_wp2_with (go_at_call 37; refine (sstep_no g v d _ (slab_drewN HS.out _) H0.out).mono ?_; rintro e w' ⟨rfl, rfl⟩)
      refine bodyPost_ret (results_tmp rfl _ _ _) rfl ?_
      rw [HA.out]
      exact ⟨rfl, v, slab_drewN HS.out _, Same.of_grown (grown_drewN w _ none) (fun _ _ => by simp), fun k hk => .inl hk⟩
    · have hap : d.append b = ({ d.step with bytes := d.bytes ++ b }, 0) := by unfold Disk.append; rw [if_neg (by omega), if_neg h0]
      have hok := Disk.append_ok h.ok b
      rw [hap] at hok
      have HA := Lib.hid (And.intro hap hok)
      have H0 := Lib.hid h0
      clear hap hok hvv hn hm h0 h hx hxg
      go_wp2_with fail
      go_quiet (fail)
      go_wp2_with fail
      refine (sstep_yes g v d _ (slab_drewN HS.out _) H0.out).mono ?_
      rintro e w' ⟨rfl, h1, hg1, hz1⟩
      have k1 := (slab_cells h1).2.1
      rw [HP.out.1] at k1
      replace h1 := Lib.hid h1
      clear c0 c1 c2 c3
      have hx' := (BytesAt.grown (r := some g) HX.out (grown_trans (grown_drewN w nq _) hg1) HXG.out).src
      have hr' := h1.out.row
      rw [HP.out.1] at hr'
      go_wp2_with ((with_reducible refine law_append 0 5 (.int .u8 0) Try.ubytes Try.iu8 rfl _ _ (d.bytes.map vb) (b.map vb) ?_ ?_ hr' hx' ?_ ?_ ?_ ?_); rfl; rfl; (intro u hu; obtain ⟨b, _, rfl⟩ := List.mem_map.1 hu; rfl); (obtain ⟨q1, q2, q3⟩ := HP.out; rw [List.length_map, List.length_map, ← q2, ← q3]; omega); omega)
      intro v2 W2 hr2 hg2 hn2
      have hb2 := h1.out.blk.kept hg2 (by rw [← HP.out.1]; exact fun e => h1.out.ne e.symm)
      obtain ⟨ad2, len2, cap2, hv2⟩ := hr2.shape
      have k2 := hb2.cell 1
      have f2 := hb2.frozen 1
      obtain ⟨W3, hW3⟩ : ∃ W3, W3 = W2.setCell ⟨g, 1, none⟩ v2 := ⟨_, rfl⟩
      have hb3 := hb2.set 1 v2
      have hg3 := grown_set W2 g 1 v2
      rw [← hW3] at hb3 hg3
      rw [hv2] at hW3
      have HW := Lib.hid (And.intro hW3 hv2)
      have hS3 : Try.SlabAt W3 g v2 { d.step with bytes := d.bytes ++ b } := by
        refine ⟨hb3, ?_, ?_, HA.out.2⟩
        · rw [List.map_append]
          exact hr2.grown hg3 (.inr (fun e => by
            rcases hn2 _ e with h | h
            · rw [← HP.out.1] at h; exact h1.out.ne h
            · have := h1.out.blk.lt; omega))
        · intro e
          rcases hn2 _ e with h | h
          · rw [← HP.out.1] at h; exact h1.out.ne h
          · have := h1.out.blk.lt; omega
      have hN : Near g v w W3 := by
        refine ((Same.of_grown (grown_trans (grown_drewN w nq _) hg1) (fun j hj => ?_)).trans (Same.of_grown hg2 (fun j hj => ?_))).trans (Same.of_grown hg3 (fun j hj => ?_))
        · exact fun e => hj.1 (Option.some.inj e)
        · rw [← HP.out.1]; exact fun e => hj.2 e.symm
        · exact fun e => hj.1 (Option.some.inj e)
      clear hb2 hg2 hr2 hb3 hg3 hg1
      rw [hv2]
      clear hv2 hW3
      go_wp2_with fail
      rw [← HW.out.1]
      refine bodyPost_ret (results_tmp rfl _ _ _) rfl ?_
      rw [HA.out.1]
      exact ⟨rfl, v2, hS3, hN, fun k hk => (hn2 k hk).imp (fun h => by rw [HP.out.1]; exact h) (fun h => by rw [hz1] at h; exact h)⟩
end Go.Proofs.Yteicjpjniaohhaa
