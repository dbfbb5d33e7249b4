/- The blocks of bytes, as the iterator of Blocks hands them out. -/
import Derived.Test.YteicjpjniaohhaaIter
import Derived.Test.YteicjpjniaohhaaBlkPlain
import Derived.Test.YteicjpjniaohhaaProg
namespace Scv
open Go Go.RowKit
/-- a slice of bytes that reads as a text -/
def BytesAt (w : World) (v : Value) (l : List UInt8) : Prop :=
  ∃ (ad : Option Addr) (cap : Nat), v = .slice ad l.length cap ∧ (l = [] ∨ ∃ b o, ad = some ⟨b, o, none⟩ ∧ ∀ i, i < l.length → w.cell? ⟨b, o + i, none⟩ = some (.int .u8 (byt l i : Int)))
/-- a slice of the slices vs, which read as texts -/
def ListsAt (w : World) (v : Value) (vs : List Value) (ls : List (List UInt8)) : Prop :=
  ∃ (ad : Option Addr) (cap : Nat), v = .slice ad ls.length cap ∧ (ls = [] ∨ ∃ b o, ad = some ⟨b, o, none⟩ ∧ ∀ i, i < ls.length → w.cell? ⟨b, o + i, none⟩ = some (vs.getD i undef)) ∧
    ∀ i, i < ls.length → BytesAt w (vs.getD i undef) (ls.getD i [])
theorem byte_at (n q : Nat) : (.int .u8 ((n : Int) * 8 / 2 ^ (8 * q) % 256) : Value) = .int .u8 ((b8 (8 * n / 256 ^ q)).toNat : Int) := by
  have h : ((b8 (8 * n / 256 ^ q)).toNat : Int) = (n : Int) * 8 / 2 ^ (8 * q) % 256 := by
    have h1 : (b8 (8 * n / 256 ^ q)).toNat = 8 * n / 2 ^ (8 * q) % 256 := by
      unfold b8
      rw [UInt8.toNat_ofNat', Nat.pow_mul]
    rw [h1, Nat.mul_comm 8 n]; simp only [Int.natCast_emod, Int.natCast_ediv, Int.natCast_mul, Int.natCast_pow]; rfl
  rw [h]
end Scv
namespace Go.Proofs.Yteicjpjniaohhaa
open Go.RowKit Go.Shelf Scv
attribute [local go_sem] Oper.semAt_some
theorem Try.zblock : (Try.prog.info? 122).map (·.zero) = some (some (.agg (u8s zb64))) := by kernel_rfl
theorem Try.sblock : (Try.prog.info? 122).map (·.size) = some 64 := by kernel_rfl
theorem Try.ublock : Try.prog.underlying 122 = some (.array 64 5) := by kernel_rfl
theorem Try.su8 : (Try.prog.info? 5).map (·.size) = some 1 := by kernel_rfl
set_option maxRecDepth 100000 in
set_option maxHeartbeats 4000000 in
theorem blocks1_iter (gp : Nat) (v : Value) (vs : List Value) (parts : List (List UInt8)) (Rd : Nat → Prop) (w0 : World) (hbox : w0.cell? ⟨gp, 0, none⟩ = some v ∧ Rd gp) (hread : ∀ X, Same Rd w0 X → ListsAt X v vs parts)
    (hP : parts.length < 1099511627776) (hM : parts.flatten.length < 1099511627776) (hRd : ∀ j, w0.heap.size ≤ j → ¬ Rd j) :
    Iter Try.prog 63 #[.pointer (some ⟨gp, 0, none⟩)] ((pad parts.flatten).length / 64) (fun k args _ => args = #[.agg (u8s (blk (pad parts.flatten) k))]) Rd w0 := by
  intro l W J Jx hW hJ hJx hY h0
  refine callsIn_of_wp Try.func63 rfl trivial ?_ rfl
  simp only [Try.ntmps63, List.size_toArray, List.length_cons, List.length_nil, Nat.reduceAdd, Nat.reduceSub, Array.replicate_succ, Array.replicate_zero, List.push_toArray, List.append_toArray, List.nil_append, List.cons_append]
  gi_wp2_with ((with_reducible apply ilaw_alloc all_wide _ Try.zblock))
  intro W1 hb1 hg1 hz1
  obtain ⟨gb, hgb⟩ : ∃ g, g = W.heap.size := ⟨_, rfl⟩
  obtain ⟨S1, hS1⟩ : ∃ S : Own1, S = fun j => False ∨ j = gb := ⟨_, rfl⟩
  have hJ1 : J S1 0 W1 := by
    rw [hS1]
    exact hJ.1 _ _ _ _ (hJ.2 _ _ _ _ h0 (by omega)) (Same.of_grown hg1 (fun _ _ => by simp))
  have hR1 : Same Rd w0 W1 := (Same.of_grown hW (fun _ _ => by simp)).trans (Same.of_grown hg1 (fun _ _ => by simp))
  rw [← hgb] at hb1
  have hnR : ¬ Rd gb := hRd gb (by rw [hgb]; exact hW.size)
  have hSg : S1 gb := by rw [hS1]; exact .inr rfl
  rw [← hgb]
  have hb1 : Blk W1 gb (u8s zb64) 122 := hb1
  have c0 : W1.cell? ⟨gp, 0, none⟩ = some v := (hR1.cell hbox.1 hbox.2)
  obtain ⟨ad, cap, hv, _⟩ := hread W1 hR1
  have HS := Lib.hid hS1
  have HG := Lib.hid hgb
  clear hS1 hgb
  subst hv
  gi_wp2_with fail
  gi_loopw [4, 13] (fun t i wr => ∃ (k : Nat) (c : List UInt8), k ≤ parts.length ∧ i = .int .i64 k ∧ t = .int .i64 ((parts.take k).flatten.length : Nat) ∧ Part (parts.take k).flatten c ∧ Blk wr gb (u8s c) 122 ∧
      J S1 ((parts.take k).flatten.length / 64) wr ∧ Same Rd w0 wr) (fun _ i _ => parts.length - (intOf i).toNat)
  case atStart => exact ⟨0, zb64, by omega, rfl, rfl, part_nil _ zb64_length, hb1, by simpa using hJ1, hR1⟩
  case round =>
    obtain ⟨k, c, hk, rfl, rfl, hc, hB, hJ2, hR2⟩ := hrel
    clear hb1 hJ1 hR1 hg1 hz1 c0
    have hlr := hread wr hR2
    obtain ⟨ad', cap', hv', hl, hbs⟩ := hlr
    cases hv'
    by_cases hkl : k < parts.length
    · obtain ⟨b, o, rfl, hcells⟩ := hl.resolve_left (fun e => by rw [e] at hkl; exact absurd hkl (by simp))
      have cv := hcells k hkl
      obtain ⟨ad2, cap2, hv2, _⟩ := hbs k hkl
      have hpre := take_prefix parts k
      have hmk := take_flatten_succ parts k hkl
      obtain ⟨p, hp⟩ : ∃ p, p = parts.getD k [] := ⟨_, rfl⟩
      obtain ⟨m, hm⟩ : ∃ m, m = (parts.take k).flatten := ⟨_, rfl⟩
      rw [hv2, ← hp] at cv
      rw [← hp] at hmk hv2
      rw [← hp, ← hm] at hpre
      rw [← hm] at hc hJ2 hmk
      rw [← hm]
      have hkl' : (k : Int) < parts.length := by omega
      have hml : (m ++ p).length ≤ parts.flatten.length := by
        have := hpre p.length hkl; rw [List.take_length] at this; exact this.length_le
      have hpl : p.length < 1099511627776 := by simp only [List.length_append] at hml; omega
      have HP := Lib.hid hp
      have HM := Lib.hid hm
      have HK := Lib.hid hmk
      have HPR := Lib.hid hpre
      have HV := Lib.hid hv2
      clear hp hm hmk hcells hl hpre hbs hv2
      gi_wp2_with fail
      gi_loopw [4, 19] (fun t i wr => ∃ (q : Nat) (c : List UInt8), q ≤ p.length ∧ i = .int .i64 q ∧ t = .int .i64 ((m ++ p.take q).length : Nat) ∧ Part (m ++ p.take q) c ∧ Blk wr gb (u8s c) 122 ∧
        J S1 ((m ++ p.take q).length / 64) wr ∧ Same Rd w0 wr) (fun _ i _ => p.length - (intOf i).toNat)
      case atStart => exact ⟨0, c, by omega, rfl, by simp, by simpa using hc, hB, by simpa using hJ2, hR2⟩
      case round =>
        obtain ⟨q, c', hq, rfl, rfl, hc', hB', hJ3, hR3⟩ := hrel
        clear hc hB hJ2 hR2 cv
        by_cases hql : q < p.length
        · have hx : wr.cell? = wr.cell? := rfl
          obtain ⟨ad', cap', hv', hl', hbs⟩ := hread wr hR3
          cases hv'
          obtain ⟨ad3, cap3, hv3, hby⟩ := hbs k hkl
          rw [HV.out, ← HP.out] at hv3
          rw [← HP.out] at hby
          cases hv3
          obtain ⟨b2, o2, rfl, hcell⟩ := hby.resolve_left (fun e => by rw [e] at hql; exact absurd hql (by simp))
          have cx := hcell q hql
          have hPP := HPR.out q hkl
          have hPS := HPR.out (q + 1) hkl
          obtain ⟨x, hxx⟩ : ∃ x, x = p.getD q 0 := ⟨_, rfl⟩
          have hsucc : m ++ p.take (q + 1) = (m ++ p.take q) ++ [x] := by
            rw [List.take_succ_eq_append_getElem hql, List.append_assoc, hxx]; simp [List.getD_eq_getElem?_getD, List.getElem?_eq_getElem hql]
          rw [hsucc] at hPS
          have hbt : byt p q = x.toNat := by rw [hxx]; rfl
          rw [hbt] at cx
          have hxl := x.toNat_lt
          obtain ⟨mq, hmq⟩ : ∃ mq, mq = m ++ p.take q := ⟨_, rfl⟩
          rw [← hmq] at hc' hJ3 hPS hsucc
          rw [← hmq]
          have hst := part_step hc' x
          have hll : mq.length < 1099511627776 := by have := hPS.length_le; simp only [List.length_append, List.length_cons, List.length_nil] at this; omega
          obtain ⟨n, hn⟩ : ∃ n, n = mq.length := ⟨_, rfl⟩
          rw [← hn] at hst hJ3 hll
          rw [← hn]
          have hql' : (q : Int) < p.length := by omega
          have HN := Lib.hid hn
          have HMQ := Lib.hid hmq
          have HPS := Lib.hid hPS
          have HSU := Lib.hid hsucc
          have HST := Lib.hid hst
          have hcl := hc'.1
          have hcL := Lib.hid hc'.1
          clear hx hl' hbs hby hPP hxx hbt hmq hsucc hst hn hPS hc' hcell
          have hcl' : n % 64 < (u8s c').size := by rw [u8s_size, hcl]; omega
          clear hcl
          gi_wp2_with ((with_reducible refine ilaw_store1 all_wide gb (n % 64) (.int .u8 (x.toNat : Int)) _ _ ?_ ?_ hB' hcl' ?_ Try.su8 ?_); rfl; rfl; rfl)
          intro W2 hB2 hg2 hz2
          rw [u8s_set] at hB2
          have hJ4 : J S1 (n / 64) W2 := hJ.1 _ _ _ _ hJ3 (Same.of_grown hg2 (fun j hj e => hj (by cases e; exact hSg)))
          have hR4 : Same Rd w0 W2 := hR3.trans (Same.of_grown hg2 (fun j hj e => hnR (by cases e; exact hj)))
          clear hB' hJ3 hR3 cx hg2 hz2 hcl'
          by_cases h63 : n % 64 = 63
          · have ht : (((n : Int) + 1) % 64 == 0) = true := by rw [beq_iff_eq]; omega
            obtain ⟨hfull, hpart⟩ := HST.out.2 h63
            have hblk : blk (pad parts.flatten) (n / 64) = c'.set (n % 64) x := by
              rw [hfull]
              refine (blk_prefix (pad_prefix HPS.out) _ ?_).symm
              have := HN.out; simp; omega
            have hlt : n / 64 < (pad parts.flatten).length / 64 := by
              have h1 := HPS.out.length_le; have h2 := HN.out; have h3 := pad_length parts.flatten
              simp only [List.length_append, List.length_cons, List.length_nil] at h1; omega
            obtain ⟨fn, tmps, assign, body, hy, hRd2⟩ := hY S1 (n / 64) _ W2 hlt hJ4 rfl hR4
            rw [hblk] at hy
            have hk1 : n / 64 + 1 = (n + 1) / 64 := by omega
            have HK1 := Lib.hid hk1
            have HB := Lib.hid hblk
            have HF := Lib.hid hfull
            have HPT := Lib.hid hpart
            have HLT := Lib.hid hlt
            clear hfull hpart hblk hlt hk1 h63
            gi_wp2_with ((with_reducible refine ilaw_loadw all_wide gb _ _ _ ?_ ?_ hB2 Try.ublock ?_ ?_ ?_); rfl; rfl; rfl; (rw [Try.sblock, u8s_size, List.length_set, hcL.out]))
            refine ⟨rfl, hRd2.mono ?_⟩
            rintro e W3 ⟨hsame, ⟨rfl, hJ5⟩ | ⟨rfl, hJx5⟩⟩
            · have hB3 := hsame.blk hB2 (.inr hSg)
              have hR5 : Same Rd w0 W3 := hR4.trans (hsame.mono fun _ => .inl)
              have hJ6 : J S1 ((m ++ p.take (q + 1)).length / 64) W3 := by
                rw [HSU.out, List.length_append, List.length_singleton, ← HN.out, ← HK1.out]; exact hJ5
              have hlen : ((m ++ p.take (q + 1)).length : Int) = (n : Int) + 1 := by
                rw [HSU.out, List.length_append, List.length_singleton, ← HN.out]; omega
              have hP6 : Part (m ++ p.take (q + 1)) (c'.set (n % 64) x) := by rw [HSU.out]; exact HPT.out
              clear hJ5 hB2 hR4 hsame hy hRd2
              have HLEN := Lib.hid hlen
              clear hlen
              gi_wp2_with fail
              go_roundw
              case rel => exact ⟨q + 1, _, by omega, by go_num, by rw [HLEN.out], hP6, hB3, hJ6, hR5⟩
              case measure => simp [intOf]; omega
            · gi_wp2_with fail
              refine bodyPost_ret (results_none rfl _ _ _) rfl ?_
              exact ⟨⟨_, rfl⟩, S1, .inr ⟨n / 64, HLT.out, hJx5⟩⟩
          · have ht : (((n : Int) + 1) % 64 == 0) = false := by rw [beq_eq_false_iff_ne]; omega
            have hpart := HST.out.1 h63
            have hJ6 : J S1 ((m ++ p.take (q + 1)).length / 64) W2 := by
              rw [HSU.out, List.length_append, List.length_singleton, ← HN.out, show (n + 1) / 64 = n / 64 from by omega]; exact hJ4
            have hlen : ((m ++ p.take (q + 1)).length : Int) = (n : Int) + 1 := by
              rw [HSU.out, List.length_append, List.length_singleton, ← HN.out]; omega
            have hP6 : Part (m ++ p.take (q + 1)) (c'.set (n % 64) x) := by rw [HSU.out]; exact hpart
            have HLEN := Lib.hid hlen
            clear hlen hpart hJ4
            gi_wp2_with fail
            refine ⟨fun _ h => (by cases h), ?_⟩
            gi_wp2_with fail
            go_roundw
            case rel => exact ⟨q + 1, _, by omega, by go_num, by rw [HLEN.out], hP6, hB2, hJ6, hR4⟩
            case measure => simp [intOf]; omega
        · obtain rfl : q = p.length := by omega
          rw [List.take_length] at hc' hJ3
          rw [List.take_length]
          have hml2 : m ++ p = (parts.take (k + 1)).flatten := HK.out.symm
          rw [hml2] at hc' hJ3
          rw [hml2]
          clear hml2 hml hql
          gi_wp2_with fail
          go_roundw
          case rel => exact ⟨k + 1, c', by omega, by go_num, rfl, hc', hB', hJ3, hR3⟩
          case measure => simp [intOf]; omega
    · obtain rfl : k = parts.length := by omega
      rw [List.take_length] at hc hJ2
      rw [List.take_length]
      obtain ⟨M, hMM⟩ : ∃ M, M = parts.flatten := ⟨_, rfl⟩
      rw [← hMM] at hc hJ2 hM
      rw [← hMM]
      rw [← hMM] at hY
      have HM := Lib.hid hMM
      clear hMM
      obtain ⟨n, hn⟩ : ∃ n, n = M.length := ⟨_, rfl⟩
      rw [← hn] at hJ2 hM
      rw [← hn]
      have HN := Lib.hid hn
      clear hn
      gi_wp2_with (first | ((with_reducible refine ilaw_build all_wide [] (u8s zb64) ?_ ?_ ?_); rfl; kernel_rfl) | ((with_reducible apply ilaw_alloc all_wide _ Try.zblock)))
      intro W2 hE hg2 hz2
      obtain ⟨ge, hge⟩ : ∃ g, g = wr.heap.size := ⟨_, rfl⟩
      rw [← hge] at hE hz2
      rw [← hge]
      have hE : Blk W2 ge (u8s zb64) 122 := hE
      have hB2 := hB.kept hg2 (by simp)
      obtain ⟨S2, hS2⟩ : ∃ S : Own1, S = fun j => S1 j ∨ j = ge := ⟨_, rfl⟩
      have hJ3 : J S2 (n / 64) W2 := by
        rw [hS2]
        exact hJ.1 _ _ _ _ (hJ.2 _ _ _ _ hJ2 (by omega)) (Same.of_grown hg2 (fun _ _ => by simp))
      have hR3 : Same Rd w0 W2 := hR2.trans (Same.of_grown hg2 (fun _ _ => by simp))
      have hSb : S2 gb := by rw [hS2]; exact .inl hSg
      have hSe : S2 ge := by rw [hS2]; exact .inr rfl
      have hne : gb ≠ ge := by have := hB.lt; omega
      have hnRe : ¬ Rd ge := hRd ge (by rw [hge]; exact hR2.size)
      clear hge hB hJ2 hR2 hg2 hz2 hS2 hSg
      gi_wp2_with ((with_reducible refine ilaw_store all_wide ge 0 (zb64.map vb) _ _ ?_ ?_ hE ?_ ?_ ?_ ?_); rfl; rfl; (rw [u8s_size, List.length_map]; omega); (intro v hv; obtain ⟨b, _, rfl⟩ := List.mem_map.1 hv; rfl); (rw [Try.sblock, List.length_map, zb64_length]))
      intro W3 hE3 hg3 hz3
      rw [lay_whole _ _ (by rw [u8s_size, List.length_map])] at hE3
      have hE3 : Blk W3 ge (u8s zb64) 122 := hE3
      have hB3 := hB2.kept hg3 (by simpa using hne)
      have hJ4 : J S2 (n / 64) W3 := hJ.1 _ _ _ _ hJ3 (Same.of_grown hg3 (fun j hj e => hj (by cases e; exact hSe)))
      have hR4 : Same Rd w0 W3 := hR3.trans (Same.of_grown hg3 (fun j hj e => hnRe (by cases e; exact hj)))
      clear hE hB2 hJ3 hR3 hg3 hz3
      gi_wp2_with fail
      refine wpIn_wide.2 ?_
      obtain ⟨r, hr⟩ : ∃ r, r = n % 64 := ⟨_, rfl⟩
      have hr64 : r < 64 := by omega
      have tm : (n : Int).tmod 64 = (r : Int) := by rw [Int.tmod_eq_emod_of_nonneg (by omega)]; omega
      have r0 : 0 ≤ (r : Int) := by omega
      have r1 : (r : Int) ≤ 64 := by omega
      have r2 : r ≤ 64 := by omega
      have HR := Lib.hid hr
      have HD := Lib.hid (And.intro hE3 (And.intro hB3 (And.intro hJ4 hR4)))
      clear hr hE3 hB3 hJ4 hR4
      go_still_tail 4, (by kernel_rfl)
      change wpList _ _ _ _ _ W3.drew
      obtain ⟨hE3, hB3, hJ4, hR4⟩ := HD.out
      clear HD
      have hcl := hc.1
      have hsrc : ∀ j v, ((c.take r).map vb)[j]? = some v → W3.drew.cell? ((⟨gb, 0, none⟩ : Addr).add j) = some v := by
        intro j v hj
        have hjr : j < r := by
          have := (List.getElem?_eq_some_iff.1 hj).1; simp at this; omega
        have h1 := hB3.drew.byte j (by omega)
        rw [show (⟨gb, 0, none⟩ : Addr).add j = ⟨gb, j, none⟩ from by unfold Addr.add; simp; exact fun e => e.symm, h1]
        simp only [List.getElem?_map, List.getElem?_take, hjr, if_true] at hj
        rw [List.getElem?_eq_getElem (by omega)] at hj
        simp only [Option.map_some, Option.some.injEq] at hj
        rw [← hj, byt, List.getD_eq_getElem?_getD, List.getElem?_eq_getElem (by omega)]; rfl
      have hcn : ((c.take r).map vb).length = Nat.min r 64 := by rw [List.length_map, List.length_take, hcl]
      have hcz : ((c.take r).map vb).length = r := by rw [List.length_map, List.length_take, hcl]; omega
      refine law_copy ge 0 64 64 ⟨gb, 0, none⟩ r 64 (u8s zb64) 122 ((c.take r).map vb) rfl rfl (by kernel_rfl) Try.su8 hE3.drew hcn hsrc (by rw [hcz, u8s_size, zb64_length]; omega) (by intro v hv; obtain ⟨b, _, rfl⟩ := List.mem_map.1 hv; rfl) ?_
      intro W4 hE4 hg4 hz4
      rw [hcz]
      have hlay : lay (u8s zb64) 0 ((c.take r).map vb) = u8s (c.take r ++ List.replicate (64 - r) 0) := by
        unfold lay
        rw [hcz]
        simp only [u8s, zb64, List.take_zero, List.nil_append, Nat.zero_add, List.map_append, List.map_replicate, List.toList_toArray, List.drop_replicate]
      rw [hlay] at hE4
      clear hsrc hcn hlay
      have hg4 := grown_trans (grown_drew W3 (some ge)) hg4
      have hB4 := hB3.kept hg4 (by simpa using hne)
      have hJ5 : J S2 (n / 64) W4 := hJ.1 _ _ _ _ hJ4 (Same.of_grown hg4 (fun j hj e => hj (by cases e; exact hSe)))
      have hR5 : Same Rd w0 W4 := hR4.trans (Same.of_grown hg4 (fun j hj e => hnRe (by cases e; exact hj)))
      clear hE3 hB3 hJ4 hR4 hg4 hz4 hcz
      have hpe := part_end hc
      rw [← HN.out, ← HR.out] at hpe
      have HC := Lib.hid hc
      have HPE := Lib.hid hpe
      have hel : (c.take r ++ List.replicate (64 - r) 0).length = 64 := by simp [hcl]; omega
      obtain ⟨e0, he0⟩ : ∃ e0, e0 = c.take r ++ List.replicate (64 - r) 0 := ⟨_, rfl⟩
      rw [← he0] at hE4 hel
      have HE0 := Lib.hid he0
      clear hc hpe he0 hcl
      have rb : (r : Int) < 64 := by omega
      go_wp2_with fail
      have hcl' : r < (u8s e0).size := by rw [u8s_size, hel]; omega
      gi_wp2_with ((with_reducible refine ilaw_store1 all_wide ge r (.int .u8 128) _ _ ?_ ?_ hE4 hcl' ?_ Try.su8 ?_); rfl; rfl; rfl)
      intro W5 hE5 hg5 hz5
      rw [show (.int .u8 128 : Value) = .int .u8 ((128 : UInt8).toNat : Int) from rfl, u8s_set, HE0.out, HPE.out] at hE5
      have hB5 := hB4.kept hg5 (by simpa using hne)
      have hJ6 : J S2 (n / 64) W5 := hJ.1 _ _ _ _ hJ5 (Same.of_grown hg5 (fun j hj e => hj (by cases e; exact hSe)))
      have hR6 : Same Rd w0 W5 := hR5.trans (Same.of_grown hg5 (fun j hj e => hnRe (by cases e; exact hj)))
      clear hE4 hB4 hJ5 hR5 hg5 hz5 hcl'
      by_cases h56 : 56 ≤ r
      · have ht : decide (56 ≤ (r : Int)) = true := by rw [decide_eq_true_eq]; omega
        have ht2 : 56 ≤ (r : Int) := by omega
        obtain ⟨b1, b2, b3⟩ := blk_last_high M (by rw [← HN.out, ← HR.out]; exact h56)
        rw [← HN.out] at b1 b2 b3
        obtain ⟨fn, tmps, assign, body, hy, hRd2⟩ := hY S2 (n / 64) _ W5 (by omega) hJ6 rfl hR6
        rw [b1] at hy
        have HB := Lib.hid (And.intro b1 (And.intro b2 b3))
        clear b1 b2 b3
        gi_wp2_with ((with_reducible refine ilaw_loadw all_wide ge _ _ _ ?_ ?_ hE5 Try.ublock ?_ ?_ ?_); rfl; rfl; rfl; (rw [Try.sblock, u8s_size, endA_length]))
        refine ⟨rfl, hRd2.mono ?_⟩
        rintro e W6 ⟨hsame, ⟨rfl, hJ7⟩ | ⟨rfl, hJx5⟩⟩
        · have hE6 := hsame.blk hE5 (.inr hSe)
          have hR7 : Same Rd w0 W6 := hR6.trans (hsame.mono fun _ => .inl)
          clear hE5 hB5 hJ6 hR6 hsame hy hRd2
          gi_wp2_with (first | ((with_reducible refine ilaw_build all_wide [] (u8s zb64) ?_ ?_ ?_); rfl; kernel_rfl) | ((with_reducible refine ilaw_store all_wide ge 0 (zb64.map vb) _ _ ?_ ?_ hE6 ?_ ?_ ?_ ?_); rfl; rfl; (rw [u8s_size, List.length_map, endA_length, zb64_length]; omega); (intro v hv; obtain ⟨b, _, rfl⟩ := List.mem_map.1 hv; rfl); (rw [Try.sblock, List.length_map, zb64_length])))
          intro W7 hE7 hg7 hz7
          rw [lay_whole _ _ (by rw [u8s_size, List.length_map, endA_length, zb64_length])] at hE7
          have hE7 : Blk W7 ge (u8s zb64) 122 := hE7
          have hJ8 : J S2 (n / 64 + 1) W7 := hJ.1 _ _ _ _ hJ7 (Same.of_grown hg7 (fun j hj e => hj (by cases e; exact hSe)))
          have hR8 : Same Rd w0 W7 := hR7.trans (Same.of_grown hg7 (fun j hj e => hnRe (by cases e; exact hj)))
          clear hE6 hJ7 hR7 hg7 hz7
          obtain ⟨x, hx⟩ : ∃ x, x = zb64 := ⟨_, rfl⟩
          have hxl : x.length = 64 := by rw [hx]; exact zb64_length
          obtain ⟨N, hN⟩ : ∃ N, N = n / 64 + 1 := ⟨_, rfl⟩
          obtain ⟨_, b2, b3⟩ := HB.out
          rw [← hx] at hE7 b2
          rw [← hN] at hJ8 b2
          have b3 : (pad M).length / 64 = N + 1 := by omega
          have HF := Lib.hid (And.intro b2 b3)
          clear b2 b3 HB hx hN
          gi_wp2_with fail
          gi_loopw [57] (fun i wr => ∃ (q : Nat), q ≤ 8 ∧ i = .int .i64 q ∧ Blk wr ge (u8s (back x (8 * n) q)) 122 ∧ J S2 N wr ∧ Same Rd w0 wr) (fun i _ => 8 - (intOf i).toNat)
          case atStart => exact ⟨0, by omega, rfl, by rw [back_zero _ _ hxl]; exact hE7, hJ8, hR8⟩
          case round =>
            obtain ⟨q, hq, rfl, hB', hJ3, hR3⟩ := hrel
            clear hE7 hJ8 hR8
            by_cases hq8 : q < 8
            · have hql : (q : Int) < 8 := by omega
              have hbl := back_length x (8 * n) q hxl hq
              have e1 : IntKind.i64.wrap (63 - (q : Int)) = 63 - q := IntWalk.i64_in _ (by omega)
              have e2 : IntKind.i64.wrap (8 * (q : Int)) = 8 * q := IntWalk.i64_in _ (by omega)
              have t1 : (63 - (q : Int)).toNat = 63 - q := by omega
              have t2 : (8 * (q : Int)).toNat = 8 * q := by omega
              have p1 : 0 ≤ 63 - (q : Int) := by omega
              have p2 : 63 - (q : Int) < 64 := by omega
              have p3 : 0 ≤ 8 * (q : Int) := by omega
              have hcl' : 63 - q < (u8s (back x (8 * n) q)).size := by rw [u8s_size, hbl]; omega
              gi_wp2_with ((with_reducible refine ilaw_store1 all_wide ge (63 - q) (.int .u8 ((n : Int) * 8 / 2 ^ (8 * q) % 256)) _ _ ?_ ?_ hB' hcl' ?_ Try.su8 ?_); rfl; rfl; rfl)
              intro W8 hE8 hg8 hz8
              rw [byte_at n q, u8s_set, back_succ x (8 * n) q hxl hq8] at hE8
              have hJ9 : J S2 N W8 := hJ.1 _ _ _ _ hJ3 (Same.of_grown hg8 (fun j hj e => hj (by cases e; exact hSe)))
              have hR9 : Same Rd w0 W8 := hR3.trans (Same.of_grown hg8 (fun j hj e => hnRe (by cases e; exact hj)))
              clear hB' hJ3 hR3 hg8 hz8 hcl'
              gi_wp2_with fail
              go_roundw
              case rel => exact ⟨q + 1, by omega, by go_num, hE8, hJ9, hR9⟩
              case measure => simp [intOf]; omega
            · obtain rfl : q = 8 := by omega
              obtain ⟨f1, f2⟩ := HF.out
              obtain ⟨fn, tmps, assign, body, hy, hRd2⟩ := hY S2 N _ wr (by omega) hJ3 rfl hR3
              rw [f1, ← back_eight] at hy
              have HF2 := Lib.hid f2
              clear f1 f2
              gi_wp2_with ((with_reducible refine ilaw_loadw all_wide ge _ _ _ ?_ ?_ hB' Try.ublock ?_ ?_ ?_); rfl; rfl; rfl; (rw [Try.sblock, u8s_size, back_length x _ _ hxl (by omega)]))
              refine ⟨rfl, hRd2.mono ?_⟩
              rintro e W9 ⟨hsame, ⟨rfl, hJa⟩ | ⟨rfl, hJb⟩⟩
              · gi_wp2_with fail
                refine bodyPost_end (results_none rfl _ _ _) rfl ?_
                exact ⟨⟨_, rfl⟩, S2, .inl (by rw [← HM.out, HF2.out]; exact hJa)⟩
              · gi_wp2_with fail
                refine bodyPost_end (results_none rfl _ _ _) rfl ?_
                exact ⟨⟨_, rfl⟩, S2, .inr ⟨N, by rw [← HM.out, HF2.out]; omega, hJb⟩⟩
        · gi_wp2_with fail
          refine bodyPost_ret (results_none rfl _ _ _) rfl ?_
          exact ⟨⟨_, rfl⟩, S2, .inr ⟨n / 64, by rw [← HM.out, HB.out.2.2]; omega, hJx5⟩⟩
      · have ht : decide (56 ≤ (r : Int)) = false := by rw [decide_eq_false_iff_not]; omega
        have ht2 : ¬ 56 ≤ (r : Int) := by omega
        obtain ⟨b1, b2⟩ := blk_last_low M (by rw [← HN.out, ← HR.out]; omega)
        rw [← HN.out] at b1 b2
        have HB := Lib.hid (And.intro b1 b2)
        clear b1 b2
        gi_wp2_with fail
        have hE7 := hE5
        have hJ8 := hJ6
        have hR8 := hR6
        clear hE5 hB5 hJ6 hR6
        obtain ⟨x, hx⟩ : ∃ x, x = endA M := ⟨_, rfl⟩
        have hxl : x.length = 64 := by rw [hx]; exact endA_length _
        obtain ⟨N, hN⟩ : ∃ N, N = n / 64 := ⟨_, rfl⟩
        obtain ⟨b2, b3⟩ := HB.out
        rw [← hx] at hE7 b2
        rw [← hN] at hJ8 b2
        have b3 : (pad M).length / 64 = N + 1 := by omega
        have HF := Lib.hid (And.intro b2 b3)
        clear b2 b3 HB hx hN
        gi_wp2_with fail
        gi_loopw [57] (fun i wr => ∃ (q : Nat), q ≤ 8 ∧ i = .int .i64 q ∧ Blk wr ge (u8s (back x (8 * n) q)) 122 ∧ J S2 N wr ∧ Same Rd w0 wr) (fun i _ => 8 - (intOf i).toNat)
        case atStart => exact ⟨0, by omega, rfl, by rw [back_zero _ _ hxl]; exact hE7, hJ8, hR8⟩
        case round =>
          obtain ⟨q, hq, rfl, hB', hJ3, hR3⟩ := hrel
          clear hE7 hJ8 hR8
          by_cases hq8 : q < 8
          · have hql : (q : Int) < 8 := by omega
            have hbl := back_length x (8 * n) q hxl hq
            have e1 : IntKind.i64.wrap (63 - (q : Int)) = 63 - q := IntWalk.i64_in _ (by omega)
            have e2 : IntKind.i64.wrap (8 * (q : Int)) = 8 * q := IntWalk.i64_in _ (by omega)
            have t1 : (63 - (q : Int)).toNat = 63 - q := by omega
            have t2 : (8 * (q : Int)).toNat = 8 * q := by omega
            have p1 : 0 ≤ 63 - (q : Int) := by omega
            have p2 : 63 - (q : Int) < 64 := by omega
            have p3 : 0 ≤ 8 * (q : Int) := by omega
            have hcl' : 63 - q < (u8s (back x (8 * n) q)).size := by rw [u8s_size, hbl]; omega
            gi_wp2_with ((with_reducible refine ilaw_store1 all_wide ge (63 - q) (.int .u8 ((n : Int) * 8 / 2 ^ (8 * q) % 256)) _ _ ?_ ?_ hB' hcl' ?_ Try.su8 ?_); rfl; rfl; rfl)
            intro W8 hE8 hg8 hz8
            rw [byte_at n q, u8s_set, back_succ x (8 * n) q hxl hq8] at hE8
            have hJ9 : J S2 N W8 := hJ.1 _ _ _ _ hJ3 (Same.of_grown hg8 (fun j hj e => hj (by cases e; exact hSe)))
            have hR9 : Same Rd w0 W8 := hR3.trans (Same.of_grown hg8 (fun j hj e => hnRe (by cases e; exact hj)))
            clear hB' hJ3 hR3 hg8 hz8 hcl'
            gi_wp2_with fail
            go_roundw
            case rel => exact ⟨q + 1, by omega, by go_num, hE8, hJ9, hR9⟩
            case measure => simp [intOf]; omega
          · obtain rfl : q = 8 := by omega
            obtain ⟨f1, f2⟩ := HF.out
            obtain ⟨fn, tmps, assign, body, hy, hRd2⟩ := hY S2 N _ wr (by omega) hJ3 rfl hR3
            rw [f1, ← back_eight] at hy
            have HF2 := Lib.hid f2
            clear f1 f2
            gi_wp2_with ((with_reducible refine ilaw_loadw all_wide ge _ _ _ ?_ ?_ hB' Try.ublock ?_ ?_ ?_); rfl; rfl; rfl; (rw [Try.sblock, u8s_size, back_length x _ _ hxl (by omega)]))
            refine ⟨rfl, hRd2.mono ?_⟩
            rintro e W9 ⟨hsame, ⟨rfl, hJa⟩ | ⟨rfl, hJb⟩⟩
            · gi_wp2_with fail
              refine bodyPost_end (results_none rfl _ _ _) rfl ?_
              exact ⟨⟨_, rfl⟩, S2, .inl (by rw [← HM.out, HF2.out]; exact hJa)⟩
            · gi_wp2_with fail
              refine bodyPost_end (results_none rfl _ _ _) rfl ?_
              exact ⟨⟨_, rfl⟩, S2, .inr ⟨N, by rw [← HM.out, HF2.out]; omega, hJb⟩⟩

end Go.Proofs.Yteicjpjniaohhaa
