/- JournalBound: the walk. -/
import Derived.Test.YteicjpjniaohhaaLive2
namespace Go.Proofs.Yteicjpjniaohhaa
open Go.RowKit Go.Shelf Scv
set_option maxRecDepth 100000 in
set_option maxHeartbeats 4000000 in
set_option linter.unusedSimpArgs false in
theorem bound_calls (x : Value) (vs : List Value) (ls : List (List UInt8)) (room : Int) (w : World) (hread : ListsAt w x vs ls) :
    Calls Try.prog 4 #[x, .int .i64 room] w fun e w' => e = .returned (.bool true) ∧ w.grownBy w' none := by
  obtain ⟨ad, cap, hv, hcs, hbs⟩ := id hread
  subst hv
  obtain ⟨n, hn⟩ : ∃ n, n = ls.length := ⟨_, rfl⟩
  rw [← hn] at hcs hbs
  have HN := Lib.hid hn
  rw [← hn]
  clear hn hread
  go_enter Try.func4, Try.ntmps4
  go_wp2_with fail
  refine (writes_calls w).mono ?_
  rintro e0 W0 ⟨rfl, hg0⟩
  by_cases hlen : 12 < n
  · have hlen' : (12 : Int) < n := by omega
    go_wp2_with fail
    go_ret
    exact ⟨rfl, hg0⟩
  by_cases ht1 : room < 0
  · have hlen' : ¬ (12 : Int) < n := by omega
    go_wp2_with fail
    go_ret
    exact ⟨rfl, hg0⟩
  by_cases ht5 : 2000 < room
  · have hlen' : ¬ (12 : Int) < n := by omega
    have ht1' : 0 ≤ room := by omega
    go_wp2_with fail
    go_ret
    exact ⟨rfl, hg0⟩
  have hlen' : ¬ (12 : Int) < n := by omega
  have hlenB : (n : Int) ≤ 12 := by omega
  have hb1 : decide ((12 : Int) < n) = false := decide_eq_false hlen'
  have hb2 : decide (room < 0) = false := decide_eq_false ht1
  have hb3 : decide (2000 < room) = false := decide_eq_false ht5
  have ht1' : 0 ≤ room := by omega
  have ht5' : room ≤ 2000 := by omega
  go_wp2_with fail
  obtain ⟨r, rfl⟩ : ∃ r : Nat, room = r := ⟨room.toNat, by omega⟩
  refine (snew_live w r (by omega) W0 hg0).mono ?_
  rintro e1 W1 ⟨g1, rfl, -, hL1, -⟩
  have hlt1 : ∀ k, SFoot g1 (.slice none 0 0) k → k < W1.heap.size := hL1.slab.lt
  have HL1 := Lib.hid (And.intro hL1 hlt1)
  clear hL1 hlt1 hg0
  go_wp2_with fail
  refine (snew_live w 100000 (by omega) W1 HL1.out.1.grown).mono ?_
  rintro e2 W2 ⟨g2, rfl, hge2, hL2, hgr2⟩
  have hA2 := HL1.out.1.step hgr2
  have hsep : ∀ k, SFoot g1 (.slice none 0 0) k → ¬ SFoot g2 (.slice none 0 0) k := fun k h1 h2 => by
    have := HL1.out.2 k h1
    rcases h2 with rfl | h2
    · omega
    · simp [Value.ownBlock] at h2
  have H2 := Lib.hid (And.intro hA2 (And.intro hL2 hsep))
  clear hge2 hgr2 hA2 hL2 hsep HL1
  go_wp2_with fail
  refine (jopen_full g1 _ r [] W2 H2.out.1 (by simp)).mono ?_
  rintro e3 W3 ⟨j1, rv1, es1, v1, rfl, hV3, hs3, hn3, ho3⟩
  have hB3 := H2.out.2.1.far hs3 (fun k hk e => H2.out.2.2 k (.inl e) hk) hV3.lone.grown
  have hsepa : ∀ k, (SFoot g1 v1 k ∨ JFoot j1 rv1 es1 k) → ¬ SFoot g2 (.slice none 0 0) k := fun k hk h2 => by
    rcases hk with (rfl | hk) | hk
    · exact H2.out.2.2 _ (.inl rfl) h2
    · rw [ho3] at hk; simp [Value.ownBlock] at hk
    · have := hn3 k hk; have := H2.out.2.1.slab.lt k h2; omega
  have H3 := Lib.hid (And.intro hV3 (And.intro hB3 hsepa))
  clear hV3 hs3 hn3 ho3 hB3 hsepa H2
  go_wp2_with fail
  refine (jopen_full g2 _ 100000 [] W3 H3.out.2.1 (by simp)).mono ?_
  rintro e4 W4 ⟨j2, rv2, es2, v2, rfl, hV4, hs4, hn4, ho4⟩
  have hP : Try.Pair w W4 g1 v1 (full r []) j1 rv1 es1 (jfull []) g2 v2 (full 100000 []) j2 rv2 es2 (jfull []) := by
    refine ⟨H3.out.1.far hs4 (fun k hk e => H3.out.2.2 k hk (.inl e)) hV4.lone.grown, hV4, fun k hk h2 => ?_⟩
    rcases h2 with (rfl | h2) | h2
    · exact H3.out.2.2 _ hk (.inl rfl)
    · rw [ho4] at h2; simp [Value.ownBlock] at h2
    · have := hn4 k h2
      rcases hk with hk | hk
      · have := H3.out.1.lone.slab.lt k hk; omega
      · have := H3.out.1.jour.lt k hk; omega
  clear hV4 hs4 hn4 ho4 H3
  go_wp2_with fail
  go_loopw [64] (fun s64 wr => ∃ (k : Nat) (ds : List (List UInt8)) (v1 v2 rv1 rv2 : Value) (es1 es2 : List Value), k ≤ n ∧ s64 = .int .i64 k ∧ Try.Pair w wr g1 v1 (full r ds) j1 rv1 es1 (jfull ds) g2 v2 (full 100000 ds) j2 rv2 es2 (jfull ds) ∧ ds.length ≤ k ∧ total ds ≤ r ∧
    ∀ d ∈ ds, d.length ≤ 300) (fun i _ => n - (intOf i).toNat)
  case atStart => exact ⟨0, [], _, _, _, _, _, _, by omega, rfl, hP, by simp, by simp [total], by simp⟩
  case round =>
    obtain ⟨k, ds, v1, v2, rv1, rv2, es1, es2, hk, rfl, hP, hdl, htot, hle⟩ := hrel
    by_cases hkn : k < n
    · have hki : (k : Int) < n := by omega
      obtain ⟨b, o, rfl, hcells⟩ := hcs.resolve_left (fun e => by have := HN.out; rw [e] at this; simp at this; omega)
      have ck := cell_grown hP.one.lone.grown _ _ (hcells k hkn)
      have hbk := hbs k hkn
      obtain ⟨e, he⟩ : ∃ e, e = vs.getD k undef := ⟨_, rfl⟩
      obtain ⟨d, hd⟩ : ∃ d, d = ls.getD k [] := ⟨_, rfl⟩
      rw [← he, ← hd] at hbk
      rw [← he] at ck
      have hold : d ≠ [] → ∀ q, e.ownBlock = some q → q < w.heap.size := fun hd q hq => by obtain ⟨q', hq', hlt⟩ := hbk.block hd; rw [hq] at hq'; cases hq'; exact hlt
      obtain ⟨ade, cape, hev, _⟩ := id hbk
      obtain ⟨m, hm⟩ : ∃ m, m = d.length := ⟨_, rfl⟩
      rw [← hm] at hev
      subst hev
      obtain ⟨T, hT⟩ : ∃ T, T = total ds := ⟨_, rfl⟩
      have HX := Lib.hid (And.intro hbk (And.intro hold (And.intro hm (And.intro hT (And.intro hle hdl)))))
      have HP := Lib.hid hP
      rw [← hT] at htot
      clear he hd hold hbk hm hT hle hdl hP
      by_cases h300 : 300 < m
      · have h300i : (300 : Int) < m := by omega
        have hG := HP.out.one.lone.grown
        go_wp2_with fail
        go_ret
        exact ⟨rfl, hG⟩
      have h300i : ¬ (300 : Int) < m := by omega
      go_wp2_with fail
      refine (ssize_calls g1 v1 (full r ds) wr HP.out.one.lone.slab).mono ?_
      rintro e5 W5 ⟨rfl, q, rfl⟩
      have hfb : ((full r ds).bytes.length : Int) = T := by rw [HX.out.2.2.2.1]; simp [full, recsB_length]
      rw [hfb]
      have HP5 := Lib.hid (HP.out.step (grown_drewN wr q none))
      clear hfb HP
      go_wp2_with fail
      have e1 : IntKind.i64.wrap ((T : Int) + 35) = T + 35 := IntWalk.i64_in _ (by omega)
      have e2 : IntKind.i64.wrap ((T : Int) + 35 + m) = T + 35 + m := IntWalk.i64_in _ (by omega)
      have e3 : IntKind.i64.wrap ((k : Int) + 1) = k + 1 := IntWalk.i64_in _ (by omega)
      refine (jwrite_pair _ d _ HP5.out (HX.out.1.grown0 HP5.out.one.lone.grown) HX.out.2.1 (by have := HX.out.2.2.2.2.2; simp only [jfull]; omega)).mono ?_
      rintro e6 W6 ⟨rfl, v6, rv6, es6, hP6⟩
      by_cases hfit : T + (35 + m) ≤ r
      · have hwf := write_full r ds d (by have := HX.out.2.2.1; omega) (by rw [← HX.out.2.2.2.1, ← HX.out.2.2.1]; exact hfit)
        rw [hwf] at hP6 ⊢
        have hd1 : decide ((T : Int) + 35 + m ≤ r) = true := decide_eq_true (by omega)
        have hd2 : (T : Int) + 35 + m ≤ r := by omega
        have HP6 := Lib.hid hP6
        have HF := Lib.hid hfit
        clear hwf hP6 HP5 hfit
        go_wp2_with fail
        refine (jwrite_pair _ d _ HP6.out.swap (HX.out.1.grown0 HP6.out.one.lone.grown) HX.out.2.1 (by have := HX.out.2.2.2.2.2; simp only [jfull]; omega)).mono ?_
        rintro e7 W7 ⟨rfl, v7, rv7, es7, hP7⟩
        have hwf := write_full 100000 ds d (by have := HX.out.2.2.1; omega) (by have := HX.out.2.2.1; have := HX.out.2.2.2.1; omega)
        rw [hwf] at hP7 ⊢
        have HP7 := Lib.hid hP7.swap
        clear hwf hP7 HP6
        go_wp2_with fail
        refine (jlast_calls j1 g1 _ _ (jfull (ds ++ [d])) _ HP7.out.one.jour).mono ?_
        rintro e8 W8 ⟨rfl, hg8⟩
        have HP8 := Lib.hid (HP7.out.step hg8)
        clear hg8 HP7
        go_wp2_with fail
        refine (jlast_calls j2 g2 _ _ (jfull (ds ++ [d])) _ HP8.out.two.jour).mono ?_
        rintro e9 W9 ⟨rfl, hg9⟩
        have HP9 := Lib.hid (HP8.out.step hg9)
        obtain ⟨last, hlast⟩ : ∃ l, l = (jfull (ds ++ [d])).last := ⟨_, rfl⟩
        have h32 : last.length = 32 := by rw [hlast]; exact HP8.out.two.jour.len
        rw [← hlast]
        have H32 := Lib.hid h32
        clear hg9 HP8 hlast h32
        go_wp2_with ((refine wpList_step (fun K hK => ?_); refine gstep_neq (some 110) rfl rfl rfl 5 last last rfl rfl Try.uid Try.uu8 Try.su8 Try.gid H32.out H32.out ?_; refine hK _ _ ?_; clear hK K))
        refine (jlen_calls j1 g1 _ _ (jfull (ds ++ [d])) _ HP9.out.one.jour).mono ?_
        rintro e10 W10 ⟨rfl, rfl⟩
        go_wp2_with fail
        refine (jlen_calls j2 g2 _ _ (jfull (ds ++ [d])) _ HP9.out.two.jour).mono ?_
        rintro e11 W11 ⟨rfl, rfl⟩
        obtain ⟨N, hN⟩ : ∃ N, N = (jfull (ds ++ [d])).records.length := ⟨_, rfl⟩
        rw [← hN]
        clear hN
        go_wp2_with fail
        go_roundw
        case rel =>
          refine ⟨k + 1, ds ++ [d], _, _, _, _, _, _, by omega, by go_num, HP9.out, ?_, ?_, ?_⟩
          · have := HX.out.2.2.2.2.2; simp; omega
          · rw [total_snoc, ← HX.out.2.2.1, ← HX.out.2.2.2.1]; exact HF.out
          · intro y hy
            rcases List.mem_append.1 hy with hy | hy
            · exact HX.out.2.2.2.2.1 y hy
            · rw [List.mem_singleton.1 hy, ← HX.out.2.2.1]; omega
        case measure => simp [intOf]; omega
      · have hwf := write_over r ds d (by have := HX.out.2.2.1; omega) (by rw [← HX.out.2.2.2.1, ← HX.out.2.2.1]; omega)
        rw [hwf] at hP6 ⊢
        have hd1 : decide ((T : Int) + 35 + m ≤ r) = false := decide_eq_false (by omega)
        have hd2 : ¬ (T : Int) + 35 + m ≤ r := by omega
        have HP6 := Lib.hid hP6
        have HF := Lib.hid hfit
        clear hwf hP6 HP5 hfit
        have HP7 := Lib.hid HP6.out
        clear HP6
        go_wp2_with fail
        refine (jlast_calls j1 g1 _ _ (jfull ds) _ HP7.out.one.jour).mono ?_
        rintro e8 W8 ⟨rfl, hg8⟩
        have HP8 := Lib.hid (HP7.out.step hg8)
        clear hg8 HP7
        go_wp2_with fail
        refine (jlast_calls j2 g2 _ _ (jfull ds) _ HP8.out.two.jour).mono ?_
        rintro e9 W9 ⟨rfl, hg9⟩
        have HP9 := Lib.hid (HP8.out.step hg9)
        obtain ⟨last, hlast⟩ : ∃ l, l = (jfull ds).last := ⟨_, rfl⟩
        have h32 : last.length = 32 := by rw [hlast]; exact HP8.out.two.jour.len
        rw [← hlast]
        have H32 := Lib.hid h32
        clear hg9 HP8 hlast h32
        go_wp2_with ((refine wpList_step (fun K hK => ?_); refine gstep_neq (some 110) rfl rfl rfl 5 last last rfl rfl Try.uid Try.uu8 Try.su8 Try.gid H32.out H32.out ?_; refine hK _ _ ?_; clear hK K))
        refine (jlen_calls j1 g1 _ _ (jfull ds) _ HP9.out.one.jour).mono ?_
        rintro e10 W10 ⟨rfl, rfl⟩
        go_wp2_with fail
        refine (jlen_calls j2 g2 _ _ (jfull ds) _ HP9.out.two.jour).mono ?_
        rintro e11 W11 ⟨rfl, rfl⟩
        obtain ⟨N, hN⟩ : ∃ N, N = (jfull ds).records.length := ⟨_, rfl⟩
        rw [← hN]
        clear hN
        go_wp2_with fail
        go_roundw
        case rel => exact ⟨k + 1, ds, _, _, _, _, _, _, by omega, by go_num, HP9.out, by have := HX.out.2.2.2.2.2; omega, by rw [← HX.out.2.2.2.1]; exact htot, HX.out.2.2.2.2.1⟩
        case measure => simp [intOf]; omega
    · obtain rfl : k = n := by omega
      have HP := Lib.hid hP
      have hdl' := hdl
      have HD := Lib.hid hdl
      clear hP hdl hdl' htot hle
      go_wp2_with (with_reducible refine law_make 5 (.int .u8 0) Try.ubytes Try.iu8 rfl 262145 .i64 .i64 rfl rfl (by omega) ?_)
      intro W5 hr5 hg5
      have hrb : BytesAt W5 (.slice (some ⟨wr.heap.size, 0, none⟩) 262145 262145) (List.replicate 262145 0) := by
        have e : List.replicate 262145 (Value.int .u8 0) = (List.replicate 262145 (0 : UInt8)).map vb := by rw [List.map_replicate]; rfl
        rw [e] at hr5
        exact hr5.bytes
      have hV := (HP.out.step hg5).two
      have hlt : ¬ SFoot g2 v2 wr.heap.size ∧ wr.heap.size ≠ j2 ∧ rv2.ownBlock ≠ some wr.heap.size :=
        ⟨(HP.out.two.later (Nat.le_refl _)).1, fun e => (HP.out.two.later (Nat.le_refl _)).2 (.inl e), fun e => (HP.out.two.later (Nat.le_refl _)).2 (.inr (.inl e))⟩
      have HV := Lib.hid (And.intro hV (And.intro hlt hrb))
      clear hr5 hg5 hrb hV hlt
      generalize wr.heap.size = g5 at HV ⊢
      go_wp2_with fail
      refine (jwrite_live2 g2 v2 (full 100000 ds) j2 rv2 es2 (jfull ds) _ (List.replicate 262145 0) W5 HV.out.1 HV.out.2.2 (fun _ q hq => by obtain rfl : g5 = q := Option.some.inj hq; exact HV.out.2.1) (by have := HD.out; simp only [jfull]; omega)).mono ?_
      rintro e6 W6 ⟨rfl, v6, rv6, es6, hV6, -⟩
      have hwl := write_long 100000 ds (List.replicate 262145 0) (by rw [List.length_replicate]; omega)
      rw [hwl] at hV6 ⊢
      have hG := hV6.lone.grown
      clear hwl hV6
      go_wp2_with fail
      go_ret
      exact ⟨rfl, hG⟩
end Go.Proofs.Yteicjpjniaohhaa
