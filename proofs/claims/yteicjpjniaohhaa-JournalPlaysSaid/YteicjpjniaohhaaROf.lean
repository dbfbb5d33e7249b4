/- The reference's sum of a text. -/
import Derived.Test.YteicjpjniaohhaaRNums
set_option linter.unusedVariables false
set_option linter.unusedSimpArgs false
namespace Scv
open Go Go.RowKit
section
variable {P : Program} {ops : Array Oper} {o : Oper} {a : Act} {w : World} {E : Prop}
/-- a byte of a string, in a region that reads -/
theorem still_sindex {K : Act → Prop} {t : TypeId} {x y : Operand} (hop : o.op = .index t x y) (hg : o.guard = none) (l : List UInt8) (i : Int) (j : Nat) (hx : a.eval x = .string ⟨l.toArray⟩) (hy : a.eval y = .int .i64 i) (hij : i = (j : Int)) (hj : j < l.length)
    (ht : P.underlying t = some .string) (k : K (a.put o.dst (.int .u8 (byt l j : Int)))) : if Region.wanted o (yielded ops a.tmps) = true then o.still P a w K else E := by
  rw [if_pos (by simp [Region.wanted, hg])]
  subst hij
  have hsz : (ByteArray.mk l.toArray).size = l.length := by simp [ByteArray.size]
  have hr : (Instr.index t (.string ⟨l.toArray⟩) (.int .i64 (j : Int))).run P w = .ok (.int .u8 (byt l j : Int)) w := by
    rw [run_index_string w t _ .i64 _ ht, dif_pos ⟨by omega, by rw [hsz]; omega⟩]
    congr 3
    have e : (j : Int).toNat = j := by omega
    simp only [e]
    simp [byt, List.getD_eq_getElem?_getD, List.getElem?_eq_getElem hj]
    rfl
  have h2 : (execOp a.eval o).run P w = .ok (.value (.int .u8 (byt l j : Int))) w := by
    unfold execOp
    simp only [hop, hx, hy, Sem.run_bind, hr, Result.andThen_ok]; rfl
  unfold Oper.still
  rw [h2]
  exact ⟨rfl, k⟩
end
theorem kk_lt (n : Nat) : KK.getD n 0 < 4294967296 := by
  by_cases h : n < 64
  · exact (by decide : ∀ n, n < 64 → KK.getD n 0 < 4294967296) n h
  · rw [List.getD_eq_getElem?_getD, List.getElem?_eq_none (by simp [KK]; omega)]; decide
theorem blk_src {w : World} {g : Nat} {l : List Nat} {t : TypeId} (h : Blk w g (u64s l) t) (cap : Nat) : SrcAt w (.slice (some ⟨g, 0, none⟩) l.length cap) (u64s l).toList := by
  refine ⟨some ⟨g, 0, none⟩, cap, by simp [u64s], fun j u hu => ⟨⟨g, 0, none⟩, rfl, ?_⟩⟩
  rw [add_at, Nat.zero_add, h.cell]
  simpa using hu
theorem blk_byt (m : List UInt8) (k i : Nat) (h : i < 64) : byt (blk m k) i = byt m (64 * k + i) := by
  unfold byt blk
  simp [List.getD_eq_getElem?_getD, List.getElem?_take, List.getElem?_drop, h]
theorem set_getD (l : List Nat) (n a : Nat) (h : n < l.length) : (l.set n a).getD n 0 = a := by
  simp [List.getD_eq_getElem?_getD, List.getElem?_set, h]
theorem wl_set0 (b : List UInt8) (n : Nat) (h : n < 64) : (wl b n ++ List.replicate (64 - n) 0).set n 0 = wl b n ++ List.replicate (64 - n) 0 := by
  rw [List.set_append_right _ _ (by rw [wl_length]; exact Nat.le_refl _), wl_length, Nat.sub_self, show 64 - n = (63 - n) + 1 from by omega, List.replicate_succ, List.set_cons_zero]
/-- the words of a state, the first ones already added -/
def mixTo (s v : St) (n : Nat) : List Nat := (s.plus v).list.take n ++ s.list.drop n
theorem mixTo_length (s v : St) (n : Nat) : (mixTo s v n).length = 8 := by
  simp only [mixTo, List.length_append, List.length_take, List.length_drop, St.list, List.length_cons, List.length_nil]; omega
theorem mixTo_get (s v : St) (n : Nat) (h : n < 8) : (mixTo s v n).getD n 0 = s.list.getD n 0 := by
  match n, h with
  | 0, _ => rfl
  | 1, _ => rfl
  | 2, _ => rfl
  | 3, _ => rfl
  | 4, _ => rfl
  | 5, _ => rfl
  | 6, _ => rfl
  | 7, _ => rfl
theorem mixTo_set (s v : St) (n : Nat) (h : n < 8) : (mixTo s v n).set n ((s.list.getD n 0 + v.list.getD n 0) % 4294967296) = mixTo s v (n + 1) := by
  match n, h with
  | 0, _ => rfl
  | 1, _ => rfl
  | 2, _ => rfl
  | 3, _ => rfl
  | 4, _ => rfl
  | 5, _ => rfl
  | 6, _ => rfl
  | 7, _ => rfl
theorem list_lt (s : St) (h : s.lt) (n : Nat) : s.list.getD n 0 < 4294967296 := by
  obtain ⟨a, b, c, d, e, f, g, i⟩ := h
  match n with
  | 0 => exact a
  | 1 => exact b
  | 2 => exact c
  | 3 => exact d
  | 4 => exact e
  | 5 => exact f
  | 6 => exact g
  | 7 => exact i
  | _ + 8 => exact (by decide : (0 : Nat) < 4294967296)
theorem u64s_init : (u64s St.init.list) = #[.int .u64 1779033703, .int .u64 3144134277, .int .u64 1013904242, .int .u64 2773480762, .int .u64 1359893119, .int .u64 2600822924, .int .u64 528734635, .int .u64 1541459225] := rfl
end Scv
namespace Go.Proofs.Yteicjpjniaohhaa
open Go.RowKit Go.Shelf Scv
theorem turn2 (x : Nat) (hx : x < 4294967296) (w : World) : Calls Try.prog 62 #[.int .u64 x, .int .i64 2] w fun e w' => e = .returned (.int .u64 (rotr 2 x)) ∧ ∃ m, w' = w.drewN m :=
  turn_calls 2 x hx (by omega) (by omega) w
theorem turn6 (x : Nat) (hx : x < 4294967296) (w : World) : Calls Try.prog 62 #[.int .u64 x, .int .i64 6] w fun e w' => e = .returned (.int .u64 (rotr 6 x)) ∧ ∃ m, w' = w.drewN m :=
  turn_calls 6 x hx (by omega) (by omega) w
theorem turn7 (x : Nat) (hx : x < 4294967296) (w : World) : Calls Try.prog 62 #[.int .u64 x, .int .i64 7] w fun e w' => e = .returned (.int .u64 (rotr 7 x)) ∧ ∃ m, w' = w.drewN m :=
  turn_calls 7 x hx (by omega) (by omega) w
theorem turn11 (x : Nat) (hx : x < 4294967296) (w : World) : Calls Try.prog 62 #[.int .u64 x, .int .i64 11] w fun e w' => e = .returned (.int .u64 (rotr 11 x)) ∧ ∃ m, w' = w.drewN m :=
  turn_calls 11 x hx (by omega) (by omega) w
theorem turn13 (x : Nat) (hx : x < 4294967296) (w : World) : Calls Try.prog 62 #[.int .u64 x, .int .i64 13] w fun e w' => e = .returned (.int .u64 (rotr 13 x)) ∧ ∃ m, w' = w.drewN m :=
  turn_calls 13 x hx (by omega) (by omega) w
theorem turn17 (x : Nat) (hx : x < 4294967296) (w : World) : Calls Try.prog 62 #[.int .u64 x, .int .i64 17] w fun e w' => e = .returned (.int .u64 (rotr 17 x)) ∧ ∃ m, w' = w.drewN m :=
  turn_calls 17 x hx (by omega) (by omega) w
theorem turn18 (x : Nat) (hx : x < 4294967296) (w : World) : Calls Try.prog 62 #[.int .u64 x, .int .i64 18] w fun e w' => e = .returned (.int .u64 (rotr 18 x)) ∧ ∃ m, w' = w.drewN m :=
  turn_calls 18 x hx (by omega) (by omega) w
theorem turn19 (x : Nat) (hx : x < 4294967296) (w : World) : Calls Try.prog 62 #[.int .u64 x, .int .i64 19] w fun e w' => e = .returned (.int .u64 (rotr 19 x)) ∧ ∃ m, w' = w.drewN m :=
  turn_calls 19 x hx (by omega) (by omega) w
theorem turn22 (x : Nat) (hx : x < 4294967296) (w : World) : Calls Try.prog 62 #[.int .u64 x, .int .i64 22] w fun e w' => e = .returned (.int .u64 (rotr 22 x)) ∧ ∃ m, w' = w.drewN m :=
  turn_calls 22 x hx (by omega) (by omega) w
theorem turn25 (x : Nat) (hx : x < 4294967296) (w : World) : Calls Try.prog 62 #[.int .u64 x, .int .i64 25] w fun e w' => e = .returned (.int .u64 (rotr 25 x)) ∧ ∃ m, w' = w.drewN m :=
  turn_calls 25 x hx (by omega) (by omega) w
set_option maxRecDepth 100000 in
set_option maxHeartbeats 40000000 in
theorem rof_calls (m : List UInt8) (hm : m.length < 268435456) (w : World) :
    Calls Try.prog 52 #[.string ⟨m.toArray⟩] w fun e w' => e = .returned (.agg (u8s (sha m))) ∧ w.grownBy w' none := by
  go_enter Try.func52, Try.ntmps52
  go_wp2_with (with_reducible refine law_alloc _ Try.zid ?_)
  intro W1 hb1 hg1 hz1
  obtain ⟨gr, hgr⟩ : ∃ g, g = w.heap.size := ⟨_, rfl⟩
  rw [← hgr] at hb1
  rw [← hgr]
  have HGR := Lib.hid hgr
  have HB1 := Lib.hid hb1
  have HG1 := Lib.hid hg1
  clear hgr hb1 hg1 hz1
  go_wp2_with fail
  refine (filled_calls m hm W1).mono ?_
  rintro _ W2 ⟨rfl, hg2⟩
  have HG2 := Lib.hid hg2
  clear hg2
  go_wp2_with fail
  refine (parts_calls W2).mono ?_
  rintro _ W3 ⟨gk, rfl, hgk, hbk, hg3⟩
  have HG3 := Lib.hid (And.intro hgk (And.intro hbk hg3))
  clear hgk hbk hg3
  go_wp2_with ((with_reducible refine law_bslice 128 (u64s St.init.list).toList Try.uu64s Try.ku64 ?_ ?_ ?_ ?_ ?_ ?_); omega; rfl; omega; (intro v hv; rw [u64s_init] at hv; simp at hv; rcases hv with rfl | rfl | rfl | rfl | rfl | rfl | rfl | rfl <;> rfl); rfl)
  intro W4 hb4 hg4 hz4
  obtain ⟨gh, hgh⟩ : ∃ g, g = W3.heap.size := ⟨_, rfl⟩
  rw [← hgh] at hb4
  rw [← hgh]
  replace hb4 : Blk W4 gh (u64s (stAt m 0).list) 128 := hb4
  have hk4 : Blk W4 gk (u64s KK) 128 := Blk.kept (cs := u64s KK) HG3.out.2.1 hg4 (by simp)
  have hr4 : Blk W4 gr (u8s (List.replicate 32 0)) 29 := ((HB1.out.kept HG2.out (by simp)).kept HG3.out.2.2 (by simp)).kept hg4 (by simp)
  have hG4 : w.grownBy W4 none := grown_trans (grown_trans (grown_trans HG1.out HG2.out) HG3.out.2.2) hg4
  have hord : w.heap.size ≤ gr ∧ gr < gk ∧ gk < gh := by
    have h1 := HGR.out
    have h2 := HG3.out.1
    have h3 := HG2.out.size
    have h4 := HB1.out.lt
    have h5 := HG3.out.2.1.lt
    omega
  have HO := Lib.hid hord
  obtain ⟨M, hM⟩ : ∃ M, M = pad m := ⟨_, rfl⟩
  rw [← hM]
  obtain ⟨nb, hnb⟩ : ∃ nb, M.length = 64 * nb := ⟨M.length / 64, by rw [hM, pad_length]; omega⟩
  have hMl : M.length < 536870912 := by rw [hM, pad_length]; omega
  have HM := Lib.hid (And.intro hM hnb)
  have hnl : nb < 8388608 := by omega
  have hlen : M.toArray.size = 64 * nb := by rw [List.size_toArray]; exact hnb
  have hst : ∀ k, k < nb → comp (stAt m k) (blk M k) = stAt m (k + 1) := by
    intro k hk
    have hbl : (blks (pad m)).length = nb := by simp [blks, ← hM, hnb]
    unfold stAt
    rw [List.take_succ_eq_append_getElem (by rw [hbl]; exact hk), List.foldl_append]
    simp [blks, hM]
  have HST := Lib.hid hst
  have HLEN := Lib.hid hlen
  clear hord hM hnb hst hlen hg4 hz4 HB1 HG1 HG2 HG3 HGR hgh hMl
  go_wp2_with fail
  go_loopw [7] (fun s7 wr => ∃ i : Nat, i ≤ nb ∧ s7 = .int .i64 (64 * (i : Int)) ∧ Blk wr gh (u64s (stAt m i).list) 128 ∧ Blk wr gk (u64s KK) 128 ∧ Blk wr gr (u8s (List.replicate 32 0)) 29 ∧ w.grownBy wr none) (fun s7 _ => (64 * nb - intOf s7).toNat)
  case atStart => exact ⟨0, by omega, by rfl, hb4, hk4, hr4, hG4⟩
  case round =>
    clear hb4 hk4 hr4 hG4
    obtain ⟨i, hi, rfl, hH, hK, hR, hG⟩ := hrel
    have HH := Lib.hid (And.intro hH (And.intro hK (And.intro hR hG)))
    have hlen : M.length = 64 * nb := HM.out.2
    clear hH hK hR hG
    by_cases hib : i < nb
    · have t0 : 64 * (i : Int) < 64 * (nb : Int) := by omega
      go_wp2_with (with_reducible refine law_makeb 128 (.int .u64 0) Try.uu64s Try.iu64 rfl 64 .i64 .i64 rfl rfl (by omega) ?_)
      intro W5 hb5 hg5
      obtain ⟨gw, hgw⟩ : ∃ g, g = wr.heap.size := ⟨_, rfl⟩
      rw [← hgw] at hb5
      rw [← hgw]
      obtain ⟨b, hb⟩ : ∃ b, b = blk M i := ⟨_, rfl⟩
      have hbyt : ∀ j, j < 64 → byt b j = byt M (64 * i + j) := by intro j hj; rw [hb]; exact blk_byt M i j hj
      have hb5 : Blk W5 gw (u64s (wl b 0 ++ List.replicate (64 - 0) 0)) 128 := hb5
      have hG5 : w.grownBy W5 none := grown_trans HH.out.2.2.2 hg5
      have HH5 := Lib.hid (And.intro (HH.out.1.kept hg5 (by simp)) (And.intro (HH.out.2.1.kept hg5 (by simp)) (And.intro (HH.out.2.2.1.kept hg5 (by simp)) hG5)))
      have hghw : gh < gw := by rw [hgw]; exact HH.out.1.lt
      have HGW := Lib.hid hghw
      have HB := Lib.hid (And.intro hb hbyt)
      clear hg5 hgw hb hbyt hG5 hghw HH
      go_wp2_with fail
      go_loopw [9] (fun s9 wr => ∃ n : Nat, n ≤ 64 ∧ s9 = .int .i64 (n : Int) ∧ Blk wr gw (u64s (wl b n ++ List.replicate (64 - n) 0)) 128 ∧ W5.grownBy wr (some gw)) (fun s9 _ => 64 - (intOf s9).toNat)
      case atStart => exact ⟨0, by omega, by rfl, hb5, grown_refl W5 _⟩
      case round =>
        clear hb5
        obtain ⟨n, hn, rfl, hW, hG⟩ := hrel
        have HW := Lib.hid (And.intro hW hG)
        clear hW hG
        by_cases h16 : n < 16
        · as_aux_lemma =>
            have hlw : ∀ a, ((wl b n ++ List.replicate (64 - n) 0).set n a).length = 64 := by intro a; simp [wl_length]; omega
            have HLW := Lib.hid hlw
            have hn16 : (n : Int) < 16 := by omega
            have hn64 : (n : Int) < 64 := by omega
            clear hlw
            go_wp2_with fail
            go_loopw [10] (fun s10 wr => ∃ q : Nat, q ≤ 4 ∧ s10 = .int .i64 (q : Int) ∧ Blk wr gw (u64s ((wl b n ++ List.replicate (64 - n) 0).set n (acc b n q))) 128 ∧ W5.grownBy wr (some gw)) (fun s10 _ => 4 - (intOf s10).toNat)
            case atStart => exact ⟨0, by omega, by rfl, by rw [show acc b n 0 = 0 from rfl, wl_set0 b n (by omega)]; exact HW.out.1, HW.out.2⟩
            case round =>
              obtain ⟨q, hq, rfl, hW, hG⟩ := hrel
              by_cases hq4 : q < 4
              · have cw := hW.word64 n (by rw [HLW.out]; omega)
                rw [set_getD _ _ _ (by simp [wl_length]; omega)] at cw
                have ha := Nat.lt_of_lt_of_le (acc_lt b n q (by omega)) (show 256 ^ q ≤ 256 ^ 3 from Nat.pow_le_pow_right (by omega) (by omega))
                obtain ⟨a, haa⟩ : ∃ a, a = acc b n q := ⟨_, rfl⟩
                rw [← haa] at cw ha
                have ha : a < 16777216 := ha
                have HA := Lib.hid haa
                have hq' : (q : Int) < 4 := by omega
                have HWW := Lib.hid (And.intro hW hG)
                have hlen : M.length = 64 * nb := HM.out.2
                have p1 : 64 * (i : Int) + 4 * (n : Int) + (q : Int) < 64 * (nb : Int) := by omega
                have p2 : (64 * (i : Int) + 4 * (n : Int) + (q : Int)).toNat = 64 * i + 4 * n + q := by omega
                have p3 : 64 * i + 4 * n + q < M.length := by omega
                have hx : M.toArray[64 * i + 4 * n + q]? = some (M.getD (64 * i + 4 * n + q) 0) := by
                  simp [List.getD_eq_getElem?_getD, List.getElem?_eq_getElem p3]
                have e1 : IntKind.i64.wrap (4 * (n : Int)) = 4 * n := IntWalk.i64_in _ (by omega)
                have e2 : IntKind.i64.wrap (64 * (i : Int) + 4 * (n : Int)) = 64 * i + 4 * n := IntWalk.i64_in _ (by omega)
                have e3 : IntKind.i64.wrap (64 * (i : Int) + 4 * (n : Int) + (q : Int)) = 64 * i + 4 * n + q := IntWalk.i64_in _ (by omega)
                have e4 : IntKind.u64.wrap ((a : Int) * 256) = a * 256 := IntWalk.u64_in _ (by omega)
                clear haa hW hG
                go_wp2_with fail
                go_still_tail 18, (by kernel_rfl)
                refine wpStill_step (fun K hK => ?_)
                refine still_sindex rfl rfl M _ (64 * i + 4 * n + q) rfl rfl (by omega) p3 Try.ustr (hK _ ?_)
                clear hK K
                simp only [Act.put, List.setIfInBounds_toArray, List.set_cons_zero, List.set_cons_succ]
                have hby : byt M (64 * i + 4 * n + q) = byt b (4 * n + q) := by rw [HB.out.2 _ (by omega), Nat.add_assoc]
                rw [hby]
                have hbl := byt_lt b (4 * n + q)
                obtain ⟨x, hx⟩ : ∃ x, x = byt b (4 * n + q) := ⟨_, rfl⟩
                rw [← hx]
                rw [← hx] at hbl
                have HX := Lib.hid hx
                have e5 : IntKind.u64.wrap (x : Int) = x := IntWalk.u64_in _ (by omega)
                have e6 : IntKind.u64.wrap ((a : Int) * 256 + (x : Int)) = a * 256 + x := IntWalk.u64_in _ (by omega)
                clear hx hby
                repeat still_step
                try refine wpStill_nil ?_
                change wpList _ _ _ _ _ wr.drew
                refine law_store1 gw n (.int .u64 ((a : Int) * 256 + (x : Int))) _ _ rfl rfl HWW.out.1.drew (by rw [u64s_size, HLW.out]; omega) rfl Try.su64 ?_
                intro W6 hb6 hg6 _
                have hb6 : Blk W6 gw (u64s ((wl b n ++ List.replicate (64 - n) 0).set n (acc b n (q + 1)))) 128 := by
                  have e : acc b n (q + 1) = a * 256 + x := by rw [HA.out, HX.out]; rfl
                  have e3 : ((a * 256 + x : Nat) : Int) = (a : Int) * 256 + (x : Int) := by omega
                  rw [e, ← List.set_set (a := acc b n q), ← u64s_set, e3]
                  exact hb6
                have hG6 := grown_trans (grown_trans HWW.out.2 (grown_drew wr _)) hg6
                clear hg6 cw HX HA HWW e1 e2 e3 e4 e5 e6 p1 p2
                go_wp2_with fail
                go_roundw
                case rel => first | exact ⟨q + 1, by omega, by go_num, hb6, hG6⟩ | ((repeat apply Exists.intro); exact ⟨⟨q + 1, by omega, by go_num, hb6, hG6⟩, rfl⟩)
                case measure => simp [intOf]; omega
              · obtain rfl : q = 4 := by omega
                have hwn : (wl b n ++ List.replicate (64 - n) 0).set n (acc b n 4) = wl b (n + 1) ++ List.replicate (64 - (n + 1)) 0 := by
                  rw [← wl_set b n (by omega), acc_four, wnext, wl_length, if_pos h16]
                rw [hwn] at hW
                go_wp2_with fail
                go_roundw
                case rel => first | exact ⟨n + 1, by omega, by go_num, hW, hG⟩ | ((repeat apply Exists.intro); exact ⟨⟨n + 1, by omega, by go_num, hW, hG⟩, rfl⟩)
                case measure => simp [intOf]; omega
        · by_cases h64 : n < 64
          · as_aux_lemma =>
              have hlen : (wl b n ++ List.replicate (64 - n) 0).length = 64 := by simp [wl_length]; omega
              have c15 := HW.out.1.word64 (n - 15) (by omega)
              have c2 := HW.out.1.word64 (n - 2) (by omega)
              have c16 := HW.out.1.word64 (n - 16) (by omega)
              have c7 := HW.out.1.word64 (n - 7) (by omega)
              rw [wl_get b n _ _ (by omega), wl_getD b n _ (by omega)] at c15 c2 c16 c7
              have l15 := wnext_lt b (wl b (n - 15))
              have l2 := wnext_lt b (wl b (n - 2))
              have l16 := wnext_lt b (wl b (n - 16))
              have l7 := wnext_lt b (wl b (n - 7))
              obtain ⟨y1, hy1⟩ : ∃ x, x = wnext b (wl b (n - 15)) := ⟨_, rfl⟩
              obtain ⟨y2, hy2⟩ : ∃ x, x = wnext b (wl b (n - 2)) := ⟨_, rfl⟩
              obtain ⟨y3, hy3⟩ : ∃ x, x = wnext b (wl b (n - 16)) := ⟨_, rfl⟩
              obtain ⟨y4, hy4⟩ : ∃ x, x = wnext b (wl b (n - 7)) := ⟨_, rfl⟩
              rw [← hy1] at c15 l15
              rw [← hy2] at c2 l2
              rw [← hy3] at c16 l16
              rw [← hy4] at c7 l7
              have s0 := sg0_64 y1 l15
              have s1 := sg1_64 y2 l2
              have b0 := sg0_lt y1 l15
              have b1 := sg1_lt y2 l2
              obtain ⟨z0, hz0⟩ : ∃ x, x = sg0 y1 := ⟨_, rfl⟩
              obtain ⟨z1, hz1⟩ : ∃ x, x = sg1 y2 := ⟨_, rfl⟩
              rw [← hz0] at s0 b0
              rw [← hz1] at s1 b1
              have HY := Lib.hid (And.intro hy1 (And.intro hy2 (And.intro hy3 (And.intro hy4 (And.intro hz0 hz1)))))
              have HS := Lib.hid (And.intro s0 s1)
              have HL := Lib.hid hlen
              clear hy1 hy2 hy3 hy4 hz0 hz1 hlen s0 s1
              have e15 : IntKind.i64.wrap ((n : Int) - 15) = n - 15 := IntWalk.i64_in _ (by omega)
              have e2 : IntKind.i64.wrap ((n : Int) - 2) = n - 2 := IntWalk.i64_in _ (by omega)
              have e16 : IntKind.i64.wrap ((n : Int) - 16) = n - 16 := IntWalk.i64_in _ (by omega)
              have e7 : IntKind.i64.wrap ((n : Int) - 7) = n - 7 := IntWalk.i64_in _ (by omega)
              have t15 : ((n : Int) - 15).toNat = n - 15 := by omega
              have t2 : ((n : Int) - 2).toNat = n - 2 := by omega
              have t16 : ((n : Int) - 16).toNat = n - 16 := by omega
              have t7 : ((n : Int) - 7).toNat = n - 7 := by omega
              have p15 : 0 ≤ (n : Int) - 15 ∧ (n : Int) - 15 < 64 := by omega
              have p2 : 0 ≤ (n : Int) - 2 ∧ (n : Int) - 2 < 64 := by omega
              have p16 : 0 ≤ (n : Int) - 16 ∧ (n : Int) - 16 < 64 := by omega
              have p7 : 0 ≤ (n : Int) - 7 ∧ (n : Int) - 7 < 64 := by omega
              have h64' : (n : Int) < 64 := by omega
              have h16n : ¬ ((n : Int) < 16) := by omega
              have h7a : 7 ≤ (n : Int) := by omega
              have h7b : (n : Int) - 7 < 64 := by omega
              have h7c : (n : Int) < 71 := by omega
              have h16' : 16 ≤ (n : Int) := by omega
              go_wp2_with fail
              go_quiet (fail)
              go_wp2_with fail
              refine (turn7 y1 l15 _).mono ?_
              rintro _ _ ⟨rfl, m1, rfl⟩
              go_wp2_with fail
              refine (turn18 y1 l15 _).mono ?_
              rintro _ _ ⟨rfl, m2, rfl⟩
              have s0 := HS.out.1
              go_wp2_with fail
              refine (turn17 y2 l2 _).mono ?_
              rintro _ _ ⟨rfl, m3, rfl⟩
              go_wp2_with fail
              refine (turn19 y2 l2 _).mono ?_
              rintro _ _ ⟨rfl, m4, rfl⟩
              have s1 := HS.out.2
              go_wp2_with fail
              obtain ⟨wv, hwv⟩ : ∃ x, x = wr.drewN (nq + m1 + m2 + m3 + m4) := ⟨_, rfl⟩
              have hWq : Blk wv gw (u64s (wl b n ++ List.replicate (64 - n) 0)) 128 := by rw [hwv]; exact HW.out.1
              have hGq : W5.grownBy wv (some gw) := by
                rw [hwv]
                exact grown_trans HW.out.2 (grown_drewN _ _ _)
              have c16q : wv.cell? ⟨gw, n - 16, none⟩ = some (.int .u64 (y3 : Int)) := by rw [hwv]; exact c16
              have c7q : wv.cell? ⟨gw, n - 7, none⟩ = some (.int .u64 (y4 : Int)) := by rw [hwv]; exact c7
              rw [← hwv]
              have HWV := Lib.hid (And.intro hWq hGq)
              clear c16 c7 c15 c2 s0 s1 hwv HS HW hWq hGq
              have a1 : IntKind.u64.wrap ((y3 : Int) + (z0 : Int)) = y3 + z0 := IntWalk.u64_in _ (by omega)
              have a2 : IntKind.u64.wrap ((y3 : Int) + (z0 : Int) + (y4 : Int)) = y3 + z0 + y4 := IntWalk.u64_in _ (by omega)
              have a3 : IntKind.u64.wrap ((y3 : Int) + (z0 : Int) + (y4 : Int) + (z1 : Int)) = y3 + z0 + y4 + z1 := IntWalk.u64_in _ (by omega)
              have a4 : Int.tmod ((y3 : Int) + (z0 : Int) + (y4 : Int) + (z1 : Int)) 4294967296 = (y3 + z0 + y4 + z1) % 4294967296 := Int.tmod_eq_emod_of_nonneg (by omega)
              go_still_tail 20, (by kernel_rfl)
              change wpList _ _ _ _ _ wv.drew
              refine law_store1 gw n (.int .u64 (((y3 : Int) + (z0 : Int) + (y4 : Int) + (z1 : Int)) % 4294967296)) _ _ rfl rfl HWV.out.1.drew (by rw [u64s_size, HL.out]; omega) rfl Try.su64 ?_
              intro W6 hb6 hg6 _
              have hb6 : Blk W6 gw (u64s (wl b (n + 1) ++ List.replicate (64 - (n + 1)) 0)) 128 := by
                have hnext : (y3 + z0 + y4 + z1) % 4294967296 = wnext b (wl b n) := by
                  obtain ⟨h1, h2, h3, h4, h5, h6⟩ := HY.out
                  rw [h5, h6, h1, h2, h3, h4]; exact wnext_high b n (by omega)
                have e3 : ((wnext b (wl b n) : Nat) : Int) = ((y3 : Int) + (z0 : Int) + (y4 : Int) + (z1 : Int)) % 4294967296 := by rw [← hnext]; omega
                rw [← wl_set b n (by omega), ← u64s_set, e3]
                exact hb6
              have hG6 := grown_trans (grown_trans HWV.out.2 (grown_drew wv _)) hg6
              clear hg6 HWV HY HL c16q c7q a1 a2 a3 a4 e15 e2 e16 e7 t15 t2 t16 t7
              go_wp2_with fail
              go_roundw
              case rel => first | exact ⟨n + 1, by omega, by go_num, hb6, hG6⟩ | ((repeat apply Exists.intro); exact ⟨⟨n + 1, by omega, by go_num, hb6, hG6⟩, rfl⟩)
              case measure => simp [intOf]; omega
          · obtain rfl : n = 64 := by omega
            have hWf : Blk wr gw (u64s (wl b 64)) 128 := by simpa using HW.out.1
            have hGW5 := HW.out.2
            obtain ⟨s, hs⟩ : ∃ s, s = stAt m i := ⟨_, rfl⟩
            have hslt : s.lt := by rw [hs]; exact stAt_lt m i
            have hne1 : gh < gw := HGW.out
            have hne2 : gr < gk ∧ gk < gh := ⟨HO.out.2.1, HO.out.2.2⟩
            have hHf : Blk wr gh (u64s s.list) 128 := by rw [hs]; exact HH5.out.1.kept hGW5 (by simp; omega)
            have hKf : Blk wr gk (u64s KK) 128 := HH5.out.2.1.kept hGW5 (by simp; omega)
            have hRf : Blk wr gr (u8s (List.replicate 32 0)) 29 := HH5.out.2.2.1.kept hGW5 (by simp; omega)
            have hgwl : gw < wr.heap.size := hWf.lt
            have hGf : w.grownBy wr none := grown_new HH5.out.2.2.2 hGW5 (by rintro _ ⟨⟩; have := HO.out.1; omega)
            have HS := Lib.hid hs
            have HSL := Lib.hid hslt
            have HF := Lib.hid (And.intro hWf (And.intro hHf (And.intro hKf (And.intro hRf (And.intro hGf hgwl)))))
            clear hWf hGW5 hs hslt hHf hKf hRf hGf hne1 hne2 hgwl HW h16 h64 hn
            go_wp2_with (with_reducible refine law_bslice0 128 Try.uu64s Try.su64 ?_)
            intro v1 W7 hr7 hg7 ho7
            have hsrc : SrcAt W7 (.slice (some ⟨gh, 0, none⟩) 8 8) (u64s s.list).toList := blk_src (HF.out.2.1.kept hg7 (by simp)) 8
            have hbs := hg7.size
            have hone : ∀ u ∈ (u64s s.list).toList, u.oneCell' = true := by
              intro u hu
              simp only [u64s, List.toList_toArray] at hu
              obtain ⟨b, _, rfl⟩ := List.mem_map.1 hu
              rfl
            have hll : ([] : List Value).length + (u64s s.list).toList.length ≤ 1099511627776 := by simp [u64s, St.list]
            go_wp2_with ((with_reducible refine law_append wr.heap.size 128 _ Try.uu64s Try.iu64 ?_ v1 (.slice (some ⟨gh, 0, none⟩) 8 8) _ _ ?_ ?_ hr7 hsrc hone hll hbs ?_); rfl; rfl; rfl)
            intro v8 W8 hr8 hg8 ho8
            have hG8 : wr.grownBy W8 none := grown_new hg7 hg8 (by intro g hg; exact (hr7.lt g hg).1)
            obtain ⟨gv, cap, rfl, hgv0, hgv2, hE8⟩ := eight_row (s := s) (by simpa using hr8)
            have hgv1 : gw < gv := by have := HF.out.2.2.2.2.2; omega
            clear hgv0
            have HG8 := Lib.hid hG8
            clear hr8 hg8 ho8 hsrc hbs hone hll hr7 hg7 ho7 hG8
            obtain ⟨wo, rfl⟩ : ∃ x, x = wr := ⟨wr, rfl⟩
            go_wp2_with fail
            go_loopw [15, 16] (fun s15 s16 wr2 => ∃ n gv cap : Nat, n ≤ 64 ∧ s16 = .int .i64 (n : Int) ∧ s15 = .slice (some ⟨gv, 0, none⟩) 8 cap ∧ gw < gv ∧ gv < wr2.heap.size ∧ Eight wr2 gv (rnds b s n) ∧ W8.grownBy wr2 none) (fun _ s16 _ => 64 - (intOf s16).toNat)
            case atStart => exact ⟨0, gv, cap, by omega, by rfl, rfl, hgv1, hgv2, hE8, grown_refl W8 _⟩
            case round =>
              clear hE8 hgv1 hgv2
              obtain ⟨n, gv, cap, hn, rfl, rfl, hgv1, hgv2, hE, hG⟩ := hrel
              by_cases h64 : n < 64
              · as_aux_lemma =>
                  have hlt : (rnds b s n).lt := rnds_lt b s HSL.out n
                  have hG' := grown_trans HG8.out hG
                  have cK := (HF.out.2.2.1.kept hG' (by simp)).word64 n (by simp [KK]; omega)
                  have cW := (HF.out.1.kept hG' (by simp)).word64 n (by rw [wl_length]; omega)
                  obtain ⟨v, hv⟩ : ∃ v, v = rnds b s n := ⟨_, rfl⟩
                  obtain ⟨k, hk⟩ : ∃ k, k = KK.getD n 0 := ⟨_, rfl⟩
                  obtain ⟨x, hx⟩ : ∃ x, x = (wl b 64).getD n 0 := ⟨_, rfl⟩
                  have hkl : k < 4294967296 := by rw [hk]; exact kk_lt n
                  have hxl : x < 4294967296 := by rw [hx, wl_getD b 64 n h64]; exact wnext_lt _ _
                  rw [← hv] at hE hlt
                  rw [← hk] at cK
                  rw [← hx] at cW
                  have HV := Lib.hid (And.intro hv (And.intro hk hx))
                  clear hv hk hx
                  obtain ⟨la, lb, lc, ld, le, lf, lg, lh⟩ := hlt
                  have HE := Lib.hid hE
                  have HG := Lib.hid hG
                  have HGV := Lib.hid (And.intro hgv1 hgv2)
                  clear hG hG' hgv1 hgv2
                  obtain ⟨c0, c1, c2, c3, c4, c5, c6, c7⟩ := hE
                  have EC := ch_64 v.e v.f v.g le lf lg
                  have EM := mj_64 v.a v.b v.c la lb lc
                  have b0 := bs0_lt v.a
                  have b1 := bs1_lt v.e
                  have bc := ch_lt v.e v.f v.g le lg
                  have bm := mj_lt v.a v.b v.c la lc
                  have EW : IntKind.u64.wrap (4294967295 - (v.e : Int)) = 4294967295 - v.e := IntWalk.u64_in _ (by omega)
                  have h64' : (n : Int) < 64 := by omega
                  go_wp2_with fail
                  go_quiet (fail)
                  go_wp2_with fail
                  have hE1 : Eight (wr.drewN nq) gv v := HE.out
                  have hG1 : W8.grownBy (wr.drewN nq) none := grown_trans HG.out (grown_drewN wr nq none)
                  have cK1 : (wr.drewN nq).cell? ⟨gk, n, none⟩ = some (.int .u64 (k : Int)) := cK
                  have cW1 : (wr.drewN nq).cell? ⟨gw, n, none⟩ = some (.int .u64 (x : Int)) := cW
                  clear c0 c1 c2 c3 c4 c5 c6 c7 cK cW HE HG
                  have HE := Lib.hid hE1
                  have HG := Lib.hid hG1
                  clear hG1
                  obtain ⟨c0, c1, c2, c3, c4, c5, c6, c7⟩ := hE1
                  have cK := cK1
                  have cW := cW1
                  clear cK1 cW1
                  generalize wr.drewN nq = wv at *
                  clear EC EW
                  go_quiet (fail)
                  go_wp2_with fail
                  have hE1 : Eight (wv.drewN nq) gv v := HE.out
                  have hG1 : W8.grownBy (wv.drewN nq) none := grown_trans HG.out (grown_drewN wv nq none)
                  have cK1 : (wv.drewN nq).cell? ⟨gk, n, none⟩ = some (.int .u64 (k : Int)) := cK
                  have cW1 : (wv.drewN nq).cell? ⟨gw, n, none⟩ = some (.int .u64 (x : Int)) := cW
                  clear c0 c1 c2 c3 c4 c5 c6 c7 cK cW HE HG
                  have HE := Lib.hid hE1
                  have HG := Lib.hid hG1
                  clear hG1
                  obtain ⟨c0, c1, c2, c3, c4, c5, c6, c7⟩ := hE1
                  have cK := cK1
                  have cW := cW1
                  clear cK1 cW1
                  generalize wv.drewN nq = wx at *
                  clear EM
                  obtain ⟨T1, hT1⟩ : ∃ t, t = Scv.t1 v k x := ⟨_, rfl⟩
                  obtain ⟨T2, hT2⟩ : ∃ t, t = Scv.t2 v := ⟨_, rfl⟩
                  have i1 : (v.h : Int) + (bs1 v.e : Nat) + (ch v.e v.f v.g : Nat) + (k : Int) + (x : Int) = (T1 : Nat) := by rw [hT1]; unfold Scv.t1; omega
                  have i2 : ((bs0 v.a : Nat) : Int) + (mj v.a v.b v.c : Nat) = (T2 : Nat) := by rw [hT2]; unfold Scv.t2; omega
                  have l1 : T1 < 34359738368 := by omega
                  have l2 : T2 < 34359738368 := by omega
                  have HT := Lib.hid (And.intro hT1 (And.intro hT2 (And.intro i1 i2)))
                  have E1 := bs1_64 v.e
                  have w1 : IntKind.u64.wrap ((v.h : Int) + (bs1 v.e : Nat)) = v.h + (bs1 v.e : Nat) := IntWalk.u64_in _ (by omega)
                  have w2 : IntKind.u64.wrap ((v.h : Int) + (bs1 v.e : Nat) + (ch v.e v.f v.g : Nat)) = v.h + (bs1 v.e : Nat) + (ch v.e v.f v.g : Nat) := IntWalk.u64_in _ (by omega)
                  have w3 : IntKind.u64.wrap ((v.h : Int) + (bs1 v.e : Nat) + (ch v.e v.f v.g : Nat) + (k : Int)) = v.h + (bs1 v.e : Nat) + (ch v.e v.f v.g : Nat) + k := IntWalk.u64_in _ (by omega)
                  have w4 : IntKind.u64.wrap ((v.h : Int) + (bs1 v.e : Nat) + (ch v.e v.f v.g : Nat) + (k : Int) + (x : Int)) = (T1 : Nat) := by rw [IntWalk.u64_in _ (by omega), i1]
                  clear hT1 hT2 i1 i2
                  go_quiet ((go_at_call 62; exact quiet_drew (turn_any _ (by decide) _ le _)))
                  try rw [HT.out.2.2.1]
                  go_wp2_with fail
                  have hE1 : Eight (wx.drewN nq) gv v := HE.out
                  have hG1 : W8.grownBy (wx.drewN nq) none := grown_trans HG.out (grown_drewN wx nq none)
                  have cK1 : (wx.drewN nq).cell? ⟨gk, n, none⟩ = some (.int .u64 (k : Int)) := cK
                  have cW1 : (wx.drewN nq).cell? ⟨gw, n, none⟩ = some (.int .u64 (x : Int)) := cW
                  clear c0 c1 c2 c3 c4 c5 c6 c7 cK cW HE HG
                  have HE := Lib.hid hE1
                  have HG := Lib.hid hG1
                  clear hG1
                  obtain ⟨c0, c1, c2, c3, c4, c5, c6, c7⟩ := hE1
                  have cK := cK1
                  have cW := cW1
                  clear cK1 cW1
                  generalize wx.drewN nq = wy at *
                  clear E1 w1 w2 w3 w4
                  have E0 := bs0_64 v.a
                  have w5 : IntKind.u64.wrap (((bs0 v.a : Nat) : Int) + (mj v.a v.b v.c : Nat)) = (T2 : Nat) := by rw [IntWalk.u64_in _ (by omega), HT.out.2.2.2]
                  go_quiet ((go_at_call 62; exact quiet_drew (turn_any _ (by decide) _ la _)))
                  try rw [HT.out.2.2.2]
                  go_wp2_with fail
                  have hE1 : Eight (wy.drewN nq) gv v := HE.out
                  have hG1 : W8.grownBy (wy.drewN nq) none := grown_trans HG.out (grown_drewN wy nq none)
                  have cK1 : (wy.drewN nq).cell? ⟨gk, n, none⟩ = some (.int .u64 (k : Int)) := cK
                  have cW1 : (wy.drewN nq).cell? ⟨gw, n, none⟩ = some (.int .u64 (x : Int)) := cW
                  clear c0 c1 c2 c3 c4 c5 c6 c7 cK cW HE HG
                  have HE := Lib.hid hE1
                  have HG := Lib.hid hG1
                  clear hG1
                  obtain ⟨c0, c1, c2, c3, c4, c5, c6, c7⟩ := hE1
                  have cK := cK1
                  have cW := cW1
                  clear cK1 cW1
                  generalize wy.drewN nq = wz at *
                  clear E0 w5
                  have w6 : IntKind.u64.wrap ((T1 : Int) + (T2 : Int)) = T1 + T2 := IntWalk.u64_in _ (by omega)
                  have w7 : IntKind.u64.wrap ((v.d : Int) + (T1 : Int)) = v.d + T1 := IntWalk.u64_in _ (by omega)
                  have w8 : Int.tmod ((T1 : Int) + (T2 : Int)) 4294967296 = (T1 + T2) % 4294967296 := Int.tmod_eq_emod_of_nonneg (by omega)
                  have w9 : Int.tmod ((v.d : Int) + (T1 : Int)) 4294967296 = (v.d + T1) % 4294967296 := Int.tmod_eq_emod_of_nonneg (by omega)
                  go_still_tail 30, (by kernel_rfl)
                  change wpList _ _ _ _ _ wz.drew
                  refine law_bslice 128 [.int .u64 (((T1 : Int) + T2) % 4294967296), .int .u64 v.a, .int .u64 v.b, .int .u64 v.c, .int .u64 (((v.d : Int) + T1) % 4294967296), .int .u64 v.e, .int .u64 v.f, .int .u64 v.g] Try.uu64s Try.ku64 (by omega) rfl (by omega)
                    (by intro u hu; simp at hu; rcases hu with rfl | rfl | rfl | rfl | rfl | rfl | rfl | rfl <;> rfl) rfl ?_
                  intro W9 hb9 hg9 hz9
                  obtain ⟨g9, hg9e⟩ : ∃ g, g = wz.drew.heap.size := ⟨_, rfl⟩
                  rw [← hg9e] at hb9
                  rw [← hg9e]
                  have hb9 : Blk W9 g9 (u64s (rnds b s (n + 1)).list) 128 := by
                    have e1 : (((T1 + T2) % 4294967296 : Nat) : Int) = ((T1 : Int) + T2) % 4294967296 := by omega
                    have e2 : (((v.d + T1) % 4294967296 : Nat) : Int) = ((v.d : Int) + T1) % 4294967296 := by omega
                    have e3 : rnds b s (n + 1) = Scv.step k x v := by
                      obtain ⟨h1, h2, h3⟩ := HV.out
                      rw [h2, h3, h1]; rfl
                    rw [← e1, ← e2, HT.out.1, HT.out.2.1] at hb9
                    rw [e3]
                    exact hb9
                  have hE9 := eight_blk hb9
                  have hG9 : W8.grownBy W9 none := grown_trans (grown_trans HG.out (grown_drew wz none)) hg9
                  have hgl9 : gw < g9 := by rw [hg9e]; exact Nat.lt_of_lt_of_le (HF.out.2.2.2.2.2) (Nat.le_trans HG8.out.size HG.out.size)
                  have hgs9 : g9 < W9.heap.size := hb9.lt
                  clear hb9 hg9 hz9 hg9e c0 c1 c2 c3 c4 c5 c6 c7 cK cW HE HG w6 w7 w8 w9
                  go_wp2_with fail
                  go_roundw
                  case rel => first | exact ⟨n + 1, g9, 8, by omega, by go_num, rfl, hgl9, hgs9, hE9, hG9⟩ | ((repeat apply Exists.intro); exact ⟨⟨n + 1, g9, 8, by omega, by go_num, rfl, hgl9, hgs9, hE9, hG9⟩, rfl⟩)
                  case measure => simp [intOf]; omega
              · as_aux_lemma =>
                  obtain rfl : n = 64 := by omega
                  have hG' := grown_trans HG8.out hG
                  have hH2 := HF.out.2.1.kept hG' (by simp)
                  have hghv : gh ≠ gv := by have := HGW.out; omega
                  obtain ⟨v, hv⟩ : ∃ v, v = rnds b s 64 := ⟨_, rfl⟩
                  have hvl : v.lt := by rw [hv]; exact rnds_lt b s HSL.out 64
                  rw [← hv] at hE
                  have HV := Lib.hid hv
                  have HVL := Lib.hid hvl
                  have HE := Lib.hid (And.intro hE (And.intro hghv hgv2))
                  have HG' := Lib.hid hG'
                  clear hE hG hG' hv hvl hghv hgv1 hgv2 hn h64
                  obtain ⟨wv, rfl⟩ : ∃ x, x = wr := ⟨wr, rfl⟩
                  go_wp2_with fail
                  go_loopw [21] (fun s21 wr3 => ∃ n : Nat, n ≤ 8 ∧ s21 = .int .i64 (n : Int) ∧ Blk wr3 gh (u64s (mixTo s v n)) 128 ∧ wv.grownBy wr3 (some gh)) (fun s21 _ => 8 - (intOf s21).toNat)
                  case atStart => exact ⟨0, by omega, by rfl, hH2, grown_refl wv _⟩
                  case round =>
                    clear hH2
                    obtain ⟨n, hn, rfl, hB, hG⟩ := hrel
                    by_cases h8 : n < 8
                    · have h8' : (n : Int) < 8 := by omega
                      have cH := hB.word64 n (by rw [mixTo_length]; exact h8)
                      rw [mixTo_get s v n h8] at cH
                      have cV := eight_get (HE.out.1.grownR hG HE.out.2.2 (fun e => HE.out.2.1 e.symm)) n h8
                      have lx := list_lt s HSL.out n
                      have ly := list_lt v HVL.out n
                      obtain ⟨x, hx⟩ : ∃ x, x = s.list.getD n 0 := ⟨_, rfl⟩
                      obtain ⟨y, hy⟩ : ∃ y, y = v.list.getD n 0 := ⟨_, rfl⟩
                      rw [← hx] at cH lx
                      rw [← hy] at cV ly
                      have HXY := Lib.hid (And.intro hx hy)
                      have HB' := Lib.hid (And.intro hB hG)
                      clear hx hy hB hG
                      have e1 : IntKind.u64.wrap ((x : Int) + (y : Int)) = x + y := IntWalk.u64_in _ (by omega)
                      have e2 : Int.tmod ((x : Int) + (y : Int)) 4294967296 = (x + y) % 4294967296 := Int.tmod_eq_emod_of_nonneg (by omega)
                      go_wp2_with fail
                      go_still_tail 14, (by kernel_rfl)
                      change wpList _ _ _ _ _ wr.drew
                      refine law_store1 gh n (.int .u64 (((x : Int) + (y : Int)) % 4294967296)) _ _ rfl rfl HB'.out.1.drew (by rw [u64s_size, mixTo_length]; exact h8) rfl Try.su64 ?_
                      intro W6 hb6 hg6 _
                      have hb6 : Blk W6 gh (u64s (mixTo s v (n + 1))) 128 := by
                        have e3 : (((x + y) % 4294967296 : Nat) : Int) = ((x : Int) + (y : Int)) % 4294967296 := by omega
                        rw [← mixTo_set s v n h8, ← HXY.out.1, ← HXY.out.2, ← u64s_set, e3]
                        exact hb6
                      have hG6 := grown_trans (grown_trans HB'.out.2 (grown_drew wr _)) hg6
                      clear hg6 cH cV HXY HB' e1 e2
                      go_wp2_with fail
                      go_roundw
                      case rel => first | exact ⟨n + 1, by omega, by go_num, hb6, hG6⟩ | ((repeat apply Exists.intro); exact ⟨⟨n + 1, by omega, by go_num, hb6, hG6⟩, rfl⟩)
                      case measure => simp [intOf]; omega
                    · obtain rfl : n = 8 := by omega
                      have hstn : s.plus v = stAt m (i + 1) := by
                        rw [← HST.out i hib, ← HS.out, ← HB.out.1]; unfold comp; rw [HV.out]
                      have hBn : Blk wr gh (u64s (stAt m (i + 1)).list) 128 := by rw [← hstn]; exact hB
                      have hGn : wo.grownBy wr (some gh) := grown_trans (grown_weak (some gh) HG'.out) hG
                      have hKn : Blk wr gk (u64s KK) 128 := HF.out.2.2.1.kept hGn (by have := HO.out; simp; omega)
                      have hRn : Blk wr gr (u8s (List.replicate 32 0)) 29 := HF.out.2.2.2.1.kept hGn (by have := HO.out; simp; omega)
                      have hGw : w.grownBy wr none := grown_new HF.out.2.2.2.2.1 hGn (by rintro _ ⟨⟩; have := HO.out.1; have := HO.out.2; omega)
                      clear hB hG hstn hGn hn h8
                      go_wp2_with fail
                      go_roundw
                      case rel => first | exact ⟨i + 1, by omega, by go_num, hBn, hKn, hRn, hGw⟩ | ((repeat apply Exists.intro); exact ⟨⟨i + 1, by omega, by go_num, hBn, hKn, hRn, hGw⟩, rfl⟩)
                      case measure => simp [intOf]; omega
    · as_aux_lemma =>
        obtain rfl : i = nb := by omega
        have hfin : (stAt m i).bytes = sha m := by
          have hbl : (blks (pad m)).length = i := by simp [blks, ← HM.out.1, HM.out.2]
          unfold stAt sha
          rw [List.take_of_length_le (by rw [hbl]; exact Nat.le_refl _)]
        have hslt := stAt_lt m i
        obtain ⟨s, hs⟩ : ∃ s, s = stAt m i := ⟨_, rfl⟩
        have hH : Blk wr gh (u64s s.list) 128 := by rw [hs]; exact HH.out.1
        rw [← hs] at hfin hslt
        have hsl : s.bytes.length = 32 := by rw [hfin]; exact sha_length m
        have HFIN := Lib.hid (And.intro hfin (And.intro hslt hsl))
        have HHH := Lib.hid hH
        clear hfin hslt hs hH hsl
        go_wp2_with (first | ((with_reducible refine law_build [] (u8s (List.replicate 32 0)) ?_ ?_ ?_); rfl; kernel_rfl) | (with_reducible refine law_alloc _ Try.zid ?_))
        intro W5 hb5 hg5 hz5
        obtain ⟨gi, hgi⟩ : ∃ g, g = wr.heap.size := ⟨_, rfl⟩
        rw [← hgi] at hb5
        rw [← hgi]
        have HGI := Lib.hid hgi
        replace hb5 : Blk W5 gi (u8s (List.replicate 32 0)) 29 := hb5
        clear hgi
        go_wp2_with ((with_reducible refine law_store gi 0 ((List.replicate 32 0).map vb) _ _ ?_ ?_ hb5 ?_ ?_ ?_ ?_); rfl; rfl; (rw [u8s_size, List.length_map]; exact Nat.le_refl _); (intro v hv; obtain ⟨b, _, rfl⟩ := List.mem_map.1 hv; rfl); exact Try.sid)
        intro W6 hb6 hg6 hz6
        rw [lay_whole _ _ (by rw [u8s_size, List.length_map])] at hb6
        replace hb6 : Blk W6 gi (u8s (List.replicate 32 0)) 29 := hb6
        have hG6 : wr.grownBy W6 none := grown_new hg5 hg6 (by rintro _ ⟨⟩; have := HGI.out; omega)
        have HG6 := Lib.hid hG6
        have hb6 : Blk W6 gi (u8s (outTo s 0)) 29 := hb6
        have hgil : gr < gi ∧ gh < gi ∧ w.heap.size ≤ gi := by
          have h1 := HGI.out
          have h2 := HH.out.1.lt
          have h3 := HH.out.2.2.1.lt
          have h4 := HH.out.2.2.2.size
          omega
        have HGL := Lib.hid hgil
        clear hb5 hg5 hz5 hg6 hz6 hG6 hgil
        obtain ⟨wo, rfl⟩ : ∃ x, x = wr := ⟨wr, rfl⟩
        go_wp2_with fail
        go_loopw [23] (fun s23 wr => ∃ n : Nat, n ≤ 32 ∧ s23 = .int .i64 (n : Int) ∧ Blk wr gi (u8s (outTo s n)) 29 ∧ W6.grownBy wr (some gi)) (fun s23 _ => 32 - (intOf s23).toNat)
        case atStart => exact ⟨0, by omega, by rfl, hb6, grown_refl W6 _⟩
        case round =>
          clear hb6
          obtain ⟨q, hq, rfl, hB, hG⟩ := hrel
          by_cases hq32 : q < 32
          · have hql : (q : Int) < 32 := by omega
            have h3' : Blk wr gh (u64s s.list) 128 := (HHH.out.kept HG6.out (by simp)).kept hG (by have := HGL.out; simp; omega)
            obtain ⟨j, hj⟩ : ∃ j, j = q / 4 := ⟨_, rfl⟩
            obtain ⟨m4, hm⟩ : ∃ m, m = q % 4 := ⟨_, rfl⟩
            have cw := h3'.word64 j (by simp [St.list]; omega)
            have lx := list_lt s HFIN.out.2.1 j
            obtain ⟨x, hx⟩ : ∃ x, x = s.list.getD j 0 := ⟨_, rfl⟩
            rw [← hx] at cw lx
            have ej : (q : Int).tdiv 4 = (j : Int) := by rw [Int.tdiv_eq_ediv_of_nonneg (by omega)]; omega
            have em : (q : Int).tmod 4 = (m4 : Int) := by rw [Int.tmod_eq_emod_of_nonneg (by omega)]; omega
            have lj : (j : Int) < 8 := by omega
            have lm : (m4 : Int) < 4 := by omega
            have HJ := Lib.hid (And.intro hj (And.intro hm hx))
            have HB' := Lib.hid (And.intro hB hG)
            have hcl : q < (u8s (outTo s q)).size := by rw [u8s_size, outTo_length _ _ hq]; exact hq32
            clear hj hm hx hG h3'
            go_wp2_with ((with_reducible refine law_store1 gi q (.int .u8 (((x : Int) / 2 ^ (24 - 8 * m4)).tmod 256 % 256)) _ _ ?_ ?_ hB hcl ?_ Try.su8 ?_); rfl; rfl; rfl)
            intro W7 hb7 hg7 hz7
            have hbyte : (.int .u8 (((x : Int) / 2 ^ (24 - 8 * m4)).tmod 256 % 256) : Value) = .int .u8 ((outAt s q).toNat : Int) := by
              obtain ⟨hj, hm, hx⟩ := HJ.out
              unfold outAt
              rw [← hj, ← hm, ← hx]
              have e0 : (x : Int) / 2 ^ (24 - 8 * m4) = ((x / 2 ^ (24 - 8 * m4) : Nat) : Int) := by norm_cast
              rw [e0, Int.tmod_eq_emod_of_nonneg (Int.natCast_nonneg _), b8_int]
              generalize x / 2 ^ (24 - 8 * m4) = N
              congr 1
              omega
            rw [hbyte, u8s_set, outTo_set s q hq32] at hb7
            have hG7 : W6.grownBy W7 (some gi) := grown_trans HB'.out.2 hg7
            clear hB hg7 hz7 hcl cw HB' HJ
            go_wp2_with fail
            go_roundw
            case rel => first | exact ⟨q + 1, by omega, by go_num, hb7, hG7⟩ | ((repeat apply Exists.intro); exact ⟨⟨q + 1, by omega, by go_num, hb7, hG7⟩, rfl⟩)
            case measure => simp [intOf]; omega
          · obtain rfl : q = 32 := by omega
            have hfin : outTo s 32 = sha m := by unfold outTo; rw [outAt_all, HFIN.out.1]; simp
            rw [hfin] at hB
            have hshl := sha_length m
            have h4' : Blk wr gr (u8s (List.replicate 32 0)) 29 := (HH.out.2.2.1.kept HG6.out (by simp)).kept hG (by have := HGL.out; simp; omega)
            go_wp2_with (first | ((with_reducible refine law_load gi 0 ((sha m).map vb) _ _ _ ?_ hB ?_ Try.uid ?_ ?_ ?_); rfl; (intro i hi; simp [u8s]); rfl; (rw [Try.sid, List.length_map, hshl])) |
              ((with_reducible refine law_store gr 0 ((sha m).map vb) _ _ ?_ ?_ h4' ?_ ?_ ?_ ?_); rfl; rfl; (rw [u8s_size, List.length_map, hshl, List.length_replicate]; omega); (intro v hv; obtain ⟨b, _, rfl⟩ := List.mem_map.1 hv; rfl); (rw [Try.sid, List.length_map, hshl])))
            intro W7 hb7 hg7 hz7
            rw [lay_whole _ _ (by rw [u8s_size, List.length_map, hshl, List.length_replicate])] at hb7
            replace hb7 : Blk W7 gr (u8s (sha m)) 29 := hb7
            have hGw : w.grownBy W7 none := by
              refine grown_new (grown_new (grown_trans HH.out.2.2.2 HG6.out) hG (by rintro _ ⟨⟩; exact HGL.out.2.2)) hg7 (by rintro _ ⟨⟩; have := HO.out.1; omega)
            go_wp2_with fail
            refine bodyPost_ret (results_cell_row rfl _ _ gr 29 _ _ _ rfl hb7 Try.uid rfl (by rw [Try.sid, u8s_size, hshl])) rfl ?_
            exact ⟨rfl, hGw⟩
end Go.Proofs.Yteicjpjniaohhaa
