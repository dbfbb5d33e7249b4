/- (*state).take takes a block in. -/
import Derived.Test.YteicjpjniaohhaaBase
import Derived.Test.YteicjpjniaohhaaRot
set_option linter.unusedVariables false
set_option linter.unusedSimpArgs false
namespace Go.Proofs.Yteicjpjniaohhaa
open Go.RowKit Scv
theorem Try.zw64 : (Try.prog.info? 132).map (·.zero) = some (some (.agg (u32s (List.replicate 64 0)))) := by kernel_rfl
theorem Try.sw64 : (Try.prog.info? 132).map (·.size) = some 64 := by kernel_rfl
theorem Try.zstate : (Try.prog.info? 118).map (·.zero) = some (some (.agg (u32s (List.replicate 8 0)))) := by kernel_rfl
theorem Try.sstate : (Try.prog.info? 118).map (·.size) = some 8 := by kernel_rfl
theorem Try.su32 : (Try.prog.info? 116).map (·.size) = some 1 := by kernel_rfl
theorem Try.bstate (a b c d e f g h : Int) : Try.prog.built 118 [(0, .int .u32 a), (1, .int .u32 b), (2, .int .u32 c), (3, .int .u32 d), (4, .int .u32 e), (5, .int .u32 f), (6, .int .u32 g), (7, .int .u32 h)] =
    some #[.int .u32 a, .int .u32 b, .int .u32 c, .int .u32 d, .int .u32 e, .int .u32 f, .int .u32 g, .int .u32 h] := by kernel_rfl
theorem Try.ustate : Try.prog.underlying 118 = some (.array 8 116) := by kernel_rfl
set_option maxRecDepth 100000 in
set_option maxHeartbeats 4000000 in
theorem take_calls (s : St) (b : List UInt8) (hb : b.length = 64) (bs bb : Nat) (T T' : TypeId) (hne : bs ≠ bb) (w : World) (hs : Blk w bs (u32s s.list) T) (hbb : Blk w bb (u8s b) T') (hslt : s.lt) :
    Calls Try.prog 59 #[.pointer (some ⟨bs, 0, none⟩), .pointer (some ⟨bb, 0, none⟩)] w fun e w' =>
      e = .returned (.tuple #[]) ∧ Blk w' bs (u32s (comp s b).list) T ∧ w.grownBy w' (some bs) := by
  go_enter Try.func59, Try.ntmps59
  iterate 3 go_step
  refine wpList_val rfl (v := .agg (u32s KK)) (w' := w) (by kernel_rfl) ?_
  refine law_alloc _ Try.zw64 ?_
  intro W1 hk1 hg1 hz1
  refine law_store w.heap.size 0 (KK.map vw) _ _ rfl rfl hk1 (by simp [Value.cells, u32s, KK]) (by simp [Value.oneCell']) Try.sw64 ?_
  intro W2 hk2 hg2 hz2
  go_wp2_with (with_reducible refine law_alloc _ Try.zw64 ?_)
  intro W3 hk3 hg3 hz3
  have G3 : w.grownBy W3 none := grown_new (grown_new hg1 hg2 (by simp)) hg3 (by simp)
  have K3 : Blk W3 w.heap.size (u32s KK) 132 := by
    have := hk2.kept hg3 (by simp)
    rwa [lay_whole _ _ (by simp [Value.cells, u32s, KK])] at this
  have hsz : W2.heap.size = w.heap.size + 1 := by omega
  rw [hsz] at hk3
  obtain ⟨gk, hgk⟩ : ∃ g, g = w.heap.size := ⟨_, rfl⟩
  obtain ⟨gw, hgw⟩ : ∃ g, g = w.heap.size + 1 := ⟨_, rfl⟩
  rw [← hgk] at K3
  rw [← hgw] at hk3
  rw [hsz, ← hgw, ← hgk]
  have hbs : bs < gk := by have := hs.lt; omega
  have hbl : bb < gk := by have := hbb.lt; omega
  have hkw : gk < gw := by omega
  have HGK := Lib.hid hgk
  have HGW := Lib.hid hgw
  have HB := Lib.hid hb
  clear hk1 hg1 hz1 hk2 hg2 hz2 hg3 hz3 hsz hgk hgw hb
  go_wp2_with fail
  go_loopw [19] (fun i wr => ∃ n : Nat, n ≤ 64 ∧ i = .int .i64 n ∧ Blk wr gw (u32s (wl b n ++ List.replicate (64 - n) 0)) 132 ∧ Blk wr gk (u32s KK) 132 ∧ w.grownBy wr none) (fun i _ => 64 - (intOf i).toNat)
  case atStart => exact ⟨0, by omega, rfl, hk3, K3, G3⟩
  case round =>
    obtain ⟨n, hn, rfl, hW, hK, hG⟩ := hrel
    by_cases h16 : n < 16
    · have hBB : Blk wr bb (u8s b) T' := hbb.kept hG (by simp)
      have c0 := hBB.byte (4 * n) (by have := HB.out; omega)
      have c1 := hBB.byte (4 * n + 1) (by have := HB.out; omega)
      have c2 := hBB.byte (4 * n + 2) (by have := HB.out; omega)
      have c3 := hBB.byte (4 * n + 3) (by have := HB.out; omega)
      have l0 := byt_lt b (4 * n)
      have l1 := byt_lt b (4 * n + 1)
      have l2 := byt_lt b (4 * n + 2)
      have l3 := byt_lt b (4 * n + 3)
      obtain ⟨x0, hx0⟩ : ∃ x, x = byt b (4 * n) := ⟨_, rfl⟩
      obtain ⟨x1, hx1⟩ : ∃ x, x = byt b (4 * n + 1) := ⟨_, rfl⟩
      obtain ⟨x2, hx2⟩ : ∃ x, x = byt b (4 * n + 2) := ⟨_, rfl⟩
      obtain ⟨x3, hx3⟩ : ∃ x, x = byt b (4 * n + 3) := ⟨_, rfl⟩
      rw [← hx0] at c0 l0
      rw [← hx1] at c1 l1
      rw [← hx2] at c2 l2
      rw [← hx3] at c3 l3
      have HX := Lib.hid (And.intro hx0 (And.intro hx1 (And.intro hx2 hx3)))
      clear hx0 hx1 hx2 hx3
      go_wp2_with fail
      have e0 : IntKind.i64.wrap (4 * (n : Int)) = 4 * n := IntWalk.i64_in _ (by omega)
      have e1 : IntKind.i64.wrap (4 * (n : Int) + 1) = 4 * n + 1 := IntWalk.i64_in _ (by omega)
      have e2 : IntKind.i64.wrap (4 * (n : Int) + 2) = 4 * n + 2 := IntWalk.i64_in _ (by omega)
      have e3 : IntKind.i64.wrap (4 * (n : Int) + 3) = 4 * n + 3 := IntWalk.i64_in _ (by omega)
      have t0 : (4 * (n : Int)).toNat = 4 * n := by omega
      have t1 : (4 * (n : Int) + 1).toNat = 4 * n + 1 := by omega
      have t2 : (4 * (n : Int) + 2).toNat = 4 * n + 2 := by omega
      have t3 : (4 * (n : Int) + 3).toNat = 4 * n + 3 := by omega
      have p0 : 0 ≤ 4 * (n : Int) := by omega
      have p1 : 0 ≤ 4 * (n : Int) + 1 := by omega
      have p2 : 0 ≤ 4 * (n : Int) + 2 := by omega
      have p3 : 0 ≤ 4 * (n : Int) + 3 := by omega
      have q0 : 4 * (n : Int) < 64 := by omega
      have q1 : 4 * (n : Int) + 1 < 64 := by omega
      have q2 : 4 * (n : Int) + 2 < 64 := by omega
      have q3 : 4 * (n : Int) + 3 < 64 := by omega
      go_still_tail 39, (by kernel_rfl)
      change wpList _ _ _ _ _ wr.drew
      refine law_store1 gw n _ _ _ rfl rfl hW.drew (by simp [u32s_size, wl_length]; omega) rfl Try.su32 ?_
      intro W hw' hg' _
      have hfin : bits .or .u32 (bits .or .u32 (bits .or .u32 (IntKind.u32.wrap (IntKind.u32.wrap (x0 : Int) * 16777216)) (IntKind.u32.wrap (IntKind.u32.wrap (x1 : Int) * 65536)))
          (IntKind.u32.wrap (IntKind.u32.wrap (x2 : Int) * 256))) (IntKind.u32.wrap (x3 : Int)) = (wnext b (wl b n) : Nat) := by
        rw [word_go x0 x1 x2 x3 l0 l1 l2 l3]
        obtain ⟨h0, h1, h2, h3⟩ := HX.out
        rw [h0, h1, h2, h3, wnext, wl_length, if_pos h16]; rfl
      have hWn : Blk W gw (u32s (wl b (n + 1) ++ List.replicate (64 - (n + 1)) 0)) 132 := by
        rw [← wl_set b n (by omega), ← u32s_set, ← hfin]; exact hw'
      clear hw' hfin c0 c1 c2 c3 l0 l1 l2 l3 e0 e1 e2 e3 t0 t1 t2 t3 p0 p1 p2 p3 q0 q1 q2 q3
      have hGn : w.grownBy W none := grown_new (grown_trans hG (grown_drew wr none)) hg' (by have := HGW.out; intro g e; cases e; omega)
      have hKn : Blk W gk (u32s KK) 132 := hK.drew.kept hg' (by simp; omega)
      go_wp2_with fail
      go_roundw
      case rel => exact ⟨n + 1, by omega, by go_num, hWn, hKn, hGn⟩
      case measure => simp [intOf]; omega
    · by_cases h64 : n < 64
      · have hlen : (wl b n ++ List.replicate (64 - n) 0).length = 64 := by simp [wl_length]; omega
        have c15 := hW.word (n - 15) (by omega)
        have c2 := hW.word (n - 2) (by omega)
        have c16 := hW.word (n - 16) (by omega)
        have c7 := hW.word (n - 7) (by omega)
        rw [wl_get b n _ _ (by omega), wl_getD b n _ (by omega)] at c15 c2 c16 c7
        have l15 := wnext_lt b (wl b (n - 15))
        have l2 := wnext_lt b (wl b (n - 2))
        have l16 := wnext_lt b (wl b (n - 16))
        have l7 := wnext_lt b (wl b (n - 7))
        obtain ⟨y1, hy1⟩ : ∃ x, x = wnext b (wl b (n - 15)) := ⟨_, rfl⟩
        obtain ⟨y2, hy2⟩ : ∃ x, x = wnext b (wl b (n - 2)) := ⟨_, rfl⟩
        obtain ⟨y3, hy3⟩ : ∃ x, x = wnext b (wl b (n - 16)) := ⟨_, rfl⟩
        obtain ⟨y4, hy4⟩ : ∃ x, x = wnext b (wl b (n - 7)) := ⟨_, rfl⟩
        rw [← hy1] at c15 l15
        rw [← hy2] at c2 l2
        rw [← hy3] at c16 l16
        rw [← hy4] at c7 l7
        have HY := Lib.hid (And.intro hy1 (And.intro hy2 (And.intro hy3 hy4)))
        clear hy1 hy2 hy3 hy4 hlen
        have e15 : IntKind.i64.wrap ((n : Int) - 15) = n - 15 := IntWalk.i64_in _ (by omega)
        have e2 : IntKind.i64.wrap ((n : Int) - 2) = n - 2 := IntWalk.i64_in _ (by omega)
        have e16 : IntKind.i64.wrap ((n : Int) - 16) = n - 16 := IntWalk.i64_in _ (by omega)
        have e7 : IntKind.i64.wrap ((n : Int) - 7) = n - 7 := IntWalk.i64_in _ (by omega)
        have t15 : ((n : Int) - 15).toNat = n - 15 := by omega
        have t2 : ((n : Int) - 2).toNat = n - 2 := by omega
        have t16 : ((n : Int) - 16).toNat = n - 16 := by omega
        have t7 : ((n : Int) - 7).toNat = n - 7 := by omega
        have p15 : 0 ≤ (n : Int) - 15 ∧ (n : Int) - 15 < 64 := by omega
        have p2 : 0 ≤ (n : Int) - 2 ∧ (n : Int) - 2 < 64 := by omega
        have p16 : 0 ≤ (n : Int) - 16 ∧ (n : Int) - 16 < 64 := by omega
        have p7 : 0 ≤ (n : Int) - 7 ∧ (n : Int) - 7 < 64 := by omega
        have h64' : (n : Int) < 64 := by omega
        have h7a : 7 ≤ (n : Int) := by omega
        have h7b : (n : Int) - 7 < 64 := by omega
        have h7c : (n : Int) < 71 := by omega
        have h16' : 16 ≤ (n : Int) := by omega
        go_wp2_with fail
        go_quiet (fail)
        go_wp2_with fail
        refine (rot7 _ l15 _).mono ?_
        rintro e w' ⟨rfl, rfl⟩
        go_wp2_with fail
        refine (rot18 _ l15 _).mono ?_
        rintro e w' ⟨rfl, rfl⟩
        go_wp2_with fail
        refine (rot17 _ l2 _).mono ?_
        rintro e w' ⟨rfl, rfl⟩
        go_wp2_with fail
        refine (rot19 _ l2 _).mono ?_
        rintro e w' ⟨rfl, rfl⟩
        go_wp2_with fail
        have hWq : Blk (wr.drewN nq) gw (u32s (wl b n ++ List.replicate (64 - n) 0)) 132 := hW
        have hKq : Blk (wr.drewN nq) gk (u32s KK) 132 := hK
        have hGq : w.grownBy (wr.drewN nq) none := grown_trans hG (grown_drewN wr nq none)
        have c16q : (wr.drewN nq).cell? ⟨gw, n - 16, none⟩ = some (.int .u32 (y3 : Int)) := c16
        have c7q : (wr.drewN nq).cell? ⟨gw, n - 7, none⟩ = some (.int .u32 (y4 : Int)) := c7
        clear hW hK hG c16 c7 c15 c2
        generalize wr.drewN nq = wv at *
        go_still_tail 15, (by kernel_rfl)
        change wpList _ _ _ _ _ wv.drew
        refine law_store1 gw n _ _ _ rfl rfl hWq.drew (by simp [u32s_size, wl_length]; omega) rfl Try.su32 ?_
        intro W hw' hg' _
        have hfin := sched_go y1 y2 y3 y4 l15 l2
        have hnext : (y3 + sg0 y1 + y4 + sg1 y2) % 4294967296 = wnext b (wl b n) := by
          obtain ⟨h1, h2, h3, h4⟩ := HY.out
          rw [h1, h2, h3, h4]; exact wnext_high b n (by omega)
        rw [hnext] at hfin
        have hWn : Blk W gw (u32s (wl b (n + 1) ++ List.replicate (64 - (n + 1)) 0)) 132 := by
          rw [← wl_set b n (by omega), ← u32s_set, ← hfin]; exact hw'
        clear hw' hfin hnext e15 e2 e16 e7 t15 t2 t16 t7 p15 p2 p16 p7 c16q c7q
        have hGn : w.grownBy W none := grown_new (grown_trans hGq (grown_drew wv none)) hg' (by have := HGW.out; intro g e; cases e; omega)
        have hKn : Blk W gk (u32s KK) 132 := hKq.drew.kept hg' (by simp; omega)
        go_wp2_with fail
        go_roundw
        case rel => exact ⟨n + 1, by omega, by go_num, hWn, hKn, hGn⟩
        case measure => simp [intOf]; omega
      · obtain rfl : n = 64 := by omega
        have hWf : Blk wr gw (u32s (wl b 64)) 132 := by simpa using hW
        have hSS : Blk wr bs (u32s s.list) T := hs.kept hG (by simp)
        clear hW h16 h64 hn
        go_wp2_with (first | ((with_reducible refine law_load bs 0 (s.list.map vw) _ _ _ ?_ hSS ?_ Try.ustate ?_ ?_ ?_); rfl; (intro i hi; simp [u32s]); rfl; exact Try.sstate) | with_reducible refine law_alloc _ Try.zstate ?_)
        intro W1 hk1 hg1 hz1
        refine law_store wr.heap.size 0 (s.list.map vw) _ _ rfl rfl hk1 (by simp [Value.cells, u32s, St.list]) (by simp [Value.oneCell', St.list]) Try.sstate ?_
        intro W2 hk2 hg2 hz2
        obtain ⟨gv, hgv⟩ : ∃ g, g = wr.heap.size := ⟨_, rfl⟩
        rw [← hgv] at hk2
        have hwv : gw < gv := by have := hWf.lt; omega
        have hWf2 := (hWf.kept hg1 (by simp)).kept hg2 (by simp; omega)
        have hK2 := (hK.kept hg1 (by simp)).kept hg2 (by simp; omega)
        have hG2 : w.grownBy W2 none := grown_new (grown_new hG hg1 (by simp)) hg2 (by have := HGW.out; intro g e; cases e; omega)
        rw [lay_whole _ _ (by simp [Value.cells, u32s, St.list])] at hk2
        have hk2 : Blk W2 gv (u32s s.list) 118 := hk2
        rw [← hgv]
        have HGV := Lib.hid hgv
        clear hk1 hg1 hz1 hg2 hz2 hgv hWf hK hSS hG
        go_wp2_with fail
        go_loopw [106] (fun i wr => ∃ n : Nat, n ≤ 64 ∧ i = .int .i64 n ∧ Blk wr gv (u32s (rnds b s n).list) 118 ∧ Blk wr gw (u32s (wl b 64)) 132 ∧ Blk wr gk (u32s KK) 132 ∧ w.grownBy wr none) (fun i _ => 64 - (intOf i).toNat)
        case atStart => exact ⟨0, by omega, rfl, hk2, hWf2, hK2, hG2⟩
        case round =>
          clear hk2 hWf2 hK2 hG2
          obtain ⟨n, hn, rfl, hV, hW, hK, hG⟩ := hrel
          by_cases h64 : n < 64
          · have hlt : (rnds b s n).lt := rnds_lt b s hslt n
            have cK := hK.word n (by simp [KK]; omega)
            have cW := hW.word n (by rw [wl_length]; omega)
            obtain ⟨v, hv⟩ : ∃ v, v = rnds b s n := ⟨_, rfl⟩
            obtain ⟨k, hk⟩ : ∃ k, k = KK.getD n 0 := ⟨_, rfl⟩
            obtain ⟨x, hx⟩ : ∃ x, x = (wl b 64).getD n 0 := ⟨_, rfl⟩
            rw [← hv] at hV hlt
            rw [← hk] at cK
            rw [← hx] at cW
            have HV := Lib.hid (And.intro hv (And.intro hk hx))
            clear hv hk hx
            obtain ⟨la, lb, lc, _, le, lf, lg, _⟩ := hlt
            obtain ⟨c0, c1, c2, c3, c4, c5, c6, c7⟩ := st_cells hV
            have h64' : (n : Int) < 64 := by omega
            go_wp2_with fail
            go_quiet (fail)
            go_wp2_with fail
            have hV := hV.drewN nq
            have hW := hW.drewN nq
            have hK := hK.drewN nq
            have hG : w.grownBy (wr.drewN nq) none := grown_trans hG (grown_drewN wr nq none)
            have cK : (wr.drewN nq).cell? ⟨gk, n, none⟩ = some (.int .u32 (k : Int)) := cK
            have cW : (wr.drewN nq).cell? ⟨gw, n, none⟩ = some (.int .u32 (x : Int)) := cW
            clear c0 c1 c2 c3 c4 c5 c6 c7
            obtain ⟨c0, c1, c2, c3, c4, c5, c6, c7⟩ := st_cells hV
            generalize wr.drewN nq = wv at *
            go_quiet ((go_at_call 64; exact quiet_eq (rot_any _ (by decide) _ le _)))
            go_wp2_with fail
            have hV := hV.drewN nq
            have hW := hW.drewN nq
            have hK := hK.drewN nq
            have hG : w.grownBy (wv.drewN nq) none := grown_trans hG (grown_drewN wv nq none)
            clear c0 c1 c2 c3 c4 c5 c6 c7 cK cW
            obtain ⟨c0, c1, c2, c3, c4, c5, c6, c7⟩ := st_cells hV
            generalize wv.drewN nq = wx at *
            go_quiet ((go_at_call 64; exact quiet_eq (rot_any _ (by decide) _ la _)))
            have hV := hV.drewN nq
            have hW := hW.drewN nq
            have hK := hK.drewN nq
            have hG : w.grownBy (wx.drewN nq) none := grown_trans hG (grown_drewN wx nq none)
            clear c0 c1 c2 c3 c4 c5 c6 c7
            obtain ⟨c0, c1, c2, c3, c4, c5, c6, c7⟩ := st_cells hV
            generalize wx.drewN nq = wy at *
            go_wp2_with ((with_reducible apply law_build); rfl; exact Try.bstate _ _ _ _ _ _ _ _; refine law_store gv 0 _ _ _ rfl rfl hV (by simp [u32s, St.list]) (by simp [Value.oneCell']) Try.sstate ?_)
            intro W hw' hg' _
            rw [lay_whole _ _ (by simp [u32s, St.list])] at hw'
            have e1 := t1_mod v k x le lf lg
            have e2 := t2_mod v la lb lc
            have hw2 : Blk W gv (u32s (Scv.step k x v).list) 118 := by
              have ea := step_a v k x
              have ee := step_e v k x
              rw [← e1, ← e2] at ea
              rw [← e1] at ee
              show Blk W gv #[.int .u32 ((Scv.step k x v).a : Nat), .int .u32 v.a, .int .u32 v.b, .int .u32 v.c, .int .u32 ((Scv.step k x v).e : Nat), .int .u32 v.e, .int .u32 v.f, .int .u32 v.g] 118
              rw [← ea, ← ee]
              exact hw'
            clear hw' e1 e2 c0 c1 c2 c3 c4 c5 c6 c7
            have hGn : w.grownBy W none := grown_new hG hg' (by have h1 := HGW.out; intro g e; cases e; omega)
            have hWn := hW.kept hg' (by simp; omega)
            have hKn := hK.kept hg' (by simp; omega)
            obtain ⟨hv, hk, hx⟩ := HV.out
            rw [hv, hk, hx] at hw2
            clear hv hk hx
            go_wp2_with fail
            go_roundw
            case rel => exact ⟨n + 1, by omega, by go_num, hw2, hWn, hKn, hGn⟩
            case measure => simp [intOf]; omega
          · obtain rfl : n = 64 := by omega
            obtain ⟨v, hv⟩ : ∃ v, v = rnds b s 64 := ⟨_, rfl⟩
            rw [← hv] at hV
            have HV := Lib.hid hv
            have hSS : Blk wr bs (u32s s.list) T := hs.kept hG (by simp)
            have hG' : w.grownBy wr (some bs) := grown_weak _ hG
            clear hv hW hK hn h64 hs hbb
            go_wp2_with fail
            go_loopw [183] (fun i wr => ∃ n : Nat, n ≤ 8 ∧ i = .int .i64 n ∧ Blk wr bs (u32s ((s.plus v).list.take n ++ s.list.drop n)) T ∧ Blk wr gv (u32s v.list) 118 ∧ w.grownBy wr (some bs)) (fun i _ => 8 - (intOf i).toNat)
            case atStart => exact ⟨0, by omega, rfl, hSS, hV, hG'⟩
            case round =>
              clear hSS hV hG' hG
              obtain ⟨n, hn, rfl, hS, hV, hG⟩ := hrel
              by_cases h8 : n < 8
              · have hlen : ((s.plus v).list.take n ++ s.list.drop n).length = 8 := by simp [St.list]; omega
                have cS := hS.word n (by omega)
                have cV := hV.word n (by simp [St.list]; omega)
                rw [plus_get s v n h8] at cS
                have hset := plus_set s v n h8
                obtain ⟨x, hx⟩ : ∃ x, x = s.list.getD n 0 := ⟨_, rfl⟩
                obtain ⟨y, hy⟩ : ∃ y, y = v.list.getD n 0 := ⟨_, rfl⟩
                rw [← hx] at cS
                rw [← hy] at cV
                rw [← hx, ← hy] at hset
                have HS := Lib.hid hset
                have HL := Lib.hid hlen
                clear hx hy hset hlen
                have h8' : (n : Int) < 8 := by omega
                go_wp2_with fail
                go_still_tail 11, (by kernel_rfl)
                change wpList _ _ _ _ _ wr.drew
                refine law_store1 bs n _ _ _ rfl rfl hS.drew (by rw [u32s_size, HL.out]; exact h8) rfl Try.su32 ?_
                intro W hw' hg' _
                have hfin : u32s (((s.plus v).list.take n ++ s.list.drop n).set n ((x + y) % 4294967296)) = (u32s ((s.plus v).list.take n ++ s.list.drop n)).setIfInBounds n (.int .u32 (IntKind.u32.wrap ((x : Int) + (y : Int)))) := by
                  rw [wrap32_add, u32s_set]
                have hw2 : Blk W bs (u32s ((s.plus v).list.take (n + 1) ++ s.list.drop (n + 1))) T := by
                  rw [← HS.out, hfin]; exact hw'
                clear hw' hfin cS cV
                have hGn : w.grownBy W (some bs) := grown_trans hG (grown_trans (grown_drew wr _) hg')
                have hVn := hV.drew.kept hg' (by simp; omega)
                go_wp2_with fail
                go_roundw
                case rel => ((repeat apply Exists.intro); exact ⟨⟨n + 1, by omega, by go_num, hw2, hVn, hGn⟩, rfl⟩)
                case measure => simp [intOf]; omega
              · obtain rfl : n = 8 := by omega
                have hfin : Blk wr bs (u32s (comp s b).list) T := by
                  have e : (s.plus v).list.take 8 ++ s.list.drop 8 = (comp s b).list := by rw [HV.out]; rfl
                  rw [← e]; exact hS
                clear hS hV
                go_wp2_with fail
                go_end0
                exact ⟨rfl, hfin, hG⟩
end Go.Proofs.Yteicjpjniaohhaa
