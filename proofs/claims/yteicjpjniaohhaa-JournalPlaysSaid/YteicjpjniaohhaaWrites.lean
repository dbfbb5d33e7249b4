/- The guard: a record is there when the journal is opened again. -/
import Derived.Test.YteicjpjniaohhaaLive
namespace Scv
theorem one_ne : lnk zero32 [111, 110, 101] ≠ zero32 := by
  intro h
  have e := evSha_eq (forEnc [114, 101, 99, 111, 114, 100] [zero32, [111, 110, 101]]) 50 rfl [114, 101, 99, 111, 114, 100, 0, 0, 0, 0, 32, 0, 0, 0, 0, 0, 0, 0, 0, 0, 0, 0, 0, 0, 0, 0, 0, 0, 0, 0, 0, 0, 0, 0, 0, 0, 0, 0, 0, 0, 0, 0, 0, 0, 0, 0, 3, 111, 110, 101] rfl (fun l => l == List.replicate 32 0)
  have h2 : evSha 50 [114, 101, 99, 111, 114, 100, 0, 0, 0, 0, 32, 0, 0, 0, 0, 0, 0, 0, 0, 0, 0, 0, 0, 0, 0, 0, 0, 0, 0, 0, 0, 0, 0, 0, 0, 0, 0, 0, 0, 0, 0, 0, 0, 0, 0, 0, 3, 111, 110, 101] (fun l => l == List.replicate 32 0) = false := by decide +kernel
  rw [h2] at e
  have h3 : sha (forEnc [114, 101, 99, 111, 114, 100] [zero32, [111, 110, 101]]) = zero32 := h
  rw [h3] at e
  exact absurd e (by decide)
end Scv
namespace Go.Proofs.Yteicjpjniaohhaa
open Go.RowKit Go.Shelf Scv
theorem jone : (jfull [[111, 110, 101]]).records.length = 1 ∧ (jfull [[111, 110, 101]]).records.getD 0 [] = [111, 110, 101] ∧ (jfull [[111, 110, 101]]).last ≠ zero32 := by
  refine ⟨rfl, rfl, ?_⟩
  simp only [jfull, lastOf]; exact one_ne
set_option maxRecDepth 100000 in
set_option maxHeartbeats 4000000 in
theorem writes_calls (w : World) : Calls Try.prog 10 #[] w fun e w' => e = .returned (.bool true) ∧ w.grownBy w' none := by
  go_enter Try.func10, Try.ntmps10
  go_wp2_with fail
  refine (snew_live w 500 (by omega) w (grown_refl w none)).mono ?_
  rintro e1 W1 ⟨g, rfl, -, hL1, -⟩
  go_wp2_with fail
  refine (jopen_full g _ 500 [] W1 hL1 (by simp)).mono ?_
  rintro e2 W2 ⟨j, rv, es, v2, rfl, hL2, -, -⟩
  clear hL1
  have kc := fun (w : World) (C : Array Value) (n c : Nat) => Lib.run_convert_bytes_const (P := Try.prog) w 30 5 C n c Try.ubytes Try.uu8
  go_wp2_with fail
  obtain ⟨W3, hW3⟩ : ∃ W3, W3 = W2.alloc (Obj.cells #[.int .u8 111, .int .u8 110, .int .u8 101] 5 (3, 4)) := ⟨_, rfl⟩
  obtain ⟨g3, hg3⟩ : ∃ g, g = W2.heap.size := ⟨_, rfl⟩
  have G23 : W2.grownBy W3 none := by rw [hW3]; exact World.grownBy_alloc _ _ none
  have hb3 : BytesAt W3 (.slice (some ⟨g3, 0, none⟩) 3 3) [111, 110, 101] := by
    refine ⟨_, 3, rfl, .inr ⟨g3, 0, rfl, fun i hi => ?_⟩⟩
    have hh : W3.heap[g3]? = some (.cells #[.int .u8 111, .int .u8 110, .int .u8 101] 5 (3, 4)) := by rw [hW3, hg3]; exact heap_alloc_new W2 _
    simp only [World.cell?, hh, Nat.zero_add]
    match i, hi with
    | 0, _ => rfl
    | 1, _ => rfl
    | 2, _ => rfl
  rw [← hW3, ← hg3]
  have hlt := hL2.later (k := g3) (by omega)
  have hL3 := hL2.step G23
  clear hW3 hg3 G23 hL2 kc
  refine (jwrite_full g v2 500 [] j rv es _ [111, 110, 101] W3 hL3 hb3 (fun _ k hk => by obtain rfl : g3 = k := Option.some.inj hk; exact ⟨hlt.1, fun e => hlt.2 (.inl e), fun e => hlt.2 (.inr (.inl e))⟩) (by decide) (by decide) (by decide)).mono ?_
  rintro e4 W4 ⟨rfl, v4, rv4, es4, hL4, -, -⟩
  have hone : ([] ++ [[111, 110, 101]] : List (List UInt8)) = [[111, 110, 101]] := rfl
  rw [hone] at hL4
  clear hL3 hb3 hlt hone
  go_wp2_with fail
  refine (jopen_full g v4 500 [[111, 110, 101]] W4 hL4.lone (by simp)).mono ?_
  rintro e5 W5 ⟨j5, rv5, es5, v5, rfl, hL5, hs5, hn5⟩
  have hJ4 : Try.JourAt W5 j g rv4 es4 (jfull [[111, 110, 101]]) := hL4.jour.same hs5 (fun k hk e => hL4.sep k (.inl e) hk)
  have hO5 := hL5.lone.grown
  have hJ5 := hL5.jour
  obtain ⟨s, hs⟩ : ∃ s, s = jfull [[111, 110, 101]] := ⟨_, rfl⟩
  rw [← hs] at hJ4 hJ5
  obtain ⟨hr1, hr0, hlne⟩ := jone
  rw [← hs] at hr1 hr0 hlne
  have hl32 := hJ5.len
  have HS := Lib.hid (And.intro hr1 (And.intro hr0 (And.intro hl32 hlne)))
  clear hr1 hr0 hl32 hlne hL4 hL5 hs5 hn5 hs
  have H4 := Lib.hid hJ4
  have H5 := Lib.hid hJ5
  clear hJ4 hJ5
  go_wp2_with fail
  refine (jat_calls j5 g rv5 es5 s 0 W5 H5.out (by rw [HS.out.1]; omega) (by rw [HS.out.2.1]; decide)).mono ?_
  rintro e6 W6 ⟨u, rfl, hru, hg6⟩
  rw [HS.out.2.1] at hru
  have hbu := hru.bytes
  have G6 := grown_trans hO5 hg6
  have H46 := Lib.hid (H4.out.same (R := fun _ => True) (Same.of_grown hg6 (fun _ _ => by simp)) (fun _ _ => trivial))
  have H56 := Lib.hid (H5.out.same (R := fun _ => True) (Same.of_grown hg6 (fun _ _ => by simp)) (fun _ _ => trivial))
  obtain ⟨adu, nu, capu, hu⟩ := hru.shape
  subst hu
  clear hru hg6 H4 H5 hO5
  go_wp2_with ((refine wpList_step (fun K hK => ?_); refine gstep_bstring (some 53) rfl rfl rfl _ [111, 110, 101] 5 rfl hbu Try.ubytes Try.uu8 Try.ustr ?_; refine hK _ _ ?_; clear hK K))
  refine (jlen_calls j5 g rv5 es5 s W6 H56.out).mono ?_
  rintro e7 W7 ⟨rfl, rfl⟩
  rw [HS.out.1]
  go_wp2_with fail
  refine (jlast_calls j5 g rv5 es5 s W6 H56.out).mono ?_
  rintro e8 W8 ⟨rfl, hg8⟩
  have H48 := Lib.hid (H46.out.same (R := fun _ => True) (Same.of_grown hg8 (fun _ _ => by simp)) (fun _ _ => trivial))
  have G8 := grown_trans G6 hg8
  clear H46 H56 hg8 G6 hbu
  go_wp2_with fail
  refine (jlast_calls j g rv4 es4 s W8 H48.out).mono ?_
  rintro e9 W9 ⟨rfl, hg9⟩
  have H49 := Lib.hid (H48.out.same (R := fun _ => True) (Same.of_grown hg9 (fun _ _ => by simp)) (fun _ _ => trivial))
  have G9 := grown_trans G8 hg9
  clear H48 hg9 G8
  obtain ⟨last, hlast⟩ : ∃ last, last = s.last := ⟨_, rfl⟩
  rw [← hlast]
  have HL := Lib.hid hlast
  clear hlast
  have h32 : last.length = 32 := by rw [HL.out]; exact HS.out.2.2.1
  have hz32 : zero32.length = 32 := rfl
  have H32 := Lib.hid (And.intro h32 hz32)
  clear h32 hz32
  go_wp2_with ((refine wpList_step (fun K hK => ?_); refine gstep_eql (some 66) rfl rfl rfl 5 last last rfl rfl Try.uid Try.uu8 Try.su8 Try.gid H32.out.1 H32.out.1 ?_; refine hK _ _ ?_; clear hK K))
  refine (jlast_calls j g rv4 es4 s W9 H49.out).mono ?_
  rintro e10 W10 ⟨rfl, hg10⟩
  have G10 := grown_trans G9 hg10
  rw [← HL.out]
  clear H49 hg10 G9
  have hne : decide (last = zero32) = false := by rw [HL.out]; exact decide_eq_false HS.out.2.2.2
  go_wp2_with ((refine wpList_step (fun K hK => ?_); refine gstep_neq (some 72) rfl rfl rfl 5 last zero32 rfl rfl Try.uid Try.uu8 Try.su8 Try.gid H32.out.1 H32.out.2 ?_; refine hK _ _ ?_; clear hK K))
  go_ret
  exact ⟨rfl, G10⟩
end Go.Proofs.Yteicjpjniaohhaa
