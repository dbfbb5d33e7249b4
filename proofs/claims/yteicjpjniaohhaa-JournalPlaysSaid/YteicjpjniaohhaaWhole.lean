/- JournalWhole: the walk. -/
import Derived.Test.YteicjpjniaohhaaLive2
import Derived.Test.YteicjpjniaohhaaTorn
import Derived.Deep.CutRange
namespace Scv
open Go Go.RowKit
/-- a string out of bytes, in a region that only reads, under a guard -/
theorem gstill_bstring {P : Program} {ops : Array Oper} {o : Oper} {a : Act} {w : World} {E : Prop} {K : Act → Prop} {src t : TypeId} {x : Operand} (hop : o.op = .convert src t x) (hw : Region.wanted o (yielded ops a.tmps) = true) (v : Value) (l : List UInt8) (e : TypeId) (hx : a.eval x = v) (hb : BytesAt w v l)
    (hs : P.underlying src = some (.slice e)) (he : P.underlying e = some (.int .u8)) (hd : P.underlying t = some .string) (k : K (a.put o.dst (.string ⟨l.toArray⟩))) : if Region.wanted o (yielded ops a.tmps) = true then o.still P a w K else E := by
  rw [if_pos hw]
  have hr : (convert src t v).run P w = .ok (.string ⟨l.toArray⟩) w := by
    obtain ⟨ad, cap, rfl, rfl | ⟨b, o, rfl, hc⟩⟩ := hb
    · rw [List.length_nil, run_convert_bytes_string w src t e ad 0 cap hs he hd]
      cases ad <;> simp [Conv.bytesToString, loadCells]
      all_goals rfl
    · refine run_convert_bytes_back w src t e ⟨b, o, none⟩ cap l hs he hd (fun j hj => ?_)
      rw [add_at, hc j hj]
      simp [byt, List.getD_eq_getElem?_getD, List.getElem?_eq_getElem hj]
  have h2 : (execOp a.eval o).run P w = .ok (.value (.string ⟨l.toArray⟩)) w := by
    unfold execOp
    simp only [hop, hx, Sem.run_bind, hr, Result.andThen_ok]; rfl
  unfold Oper.still
  rw [h2]
  exact ⟨rfl, k⟩
theorem left_take (ls : List (List UInt8)) (n r : Nat) (hn : n = ls.length) (h0 : 0 < n) : left (ls.take (n - 1)) (ls.getD (n - 1) []) r = ls.take (if r = 35 + (ls.getD (n - 1) []).length then n else n - 1) := by
  unfold left
  have h1 := take_snoc' ls (n - 1) (by omega)
  rw [show n - 1 + 1 = n from by omega] at h1
  split
  · exact h1.symm
  · rfl
end Scv
namespace Go.Proofs.Yteicjpjniaohhaa
open Go.RowKit Go.Shelf Scv
theorem Try.Live.brk {w0 w w' : World} {g : Nat} {v : Value} {d d' : Disk} {j : Nat} {rv : Value} {es : List Value} {s : Jour} (h : Try.Live w0 w g v d j rv es s) (hS : Try.SlabAt w' g v d') (hg : w.grownBy w' (some g)) : Try.Live w0 w' g v d' j rv es s := by
  have hgn := h.lone.new g (.inl rfl)
  have hG := grown_new h.lone.grown hg (fun q hq => by cases hq; exact hgn)
  exact ⟨⟨hS, hG, h.lone.new⟩, h.jour.same (R := fun k => k ≠ g) (Same.of_grown hg (fun k hk e => hk (Option.some.inj e))) (fun k hk e => h.sep k (.inl e) hk), h.sep, h.newj⟩
/-- the power comes back -/
theorem scrash_live {w0 : World} (g : Nat) (v : Value) (d : Disk) (keep : Int) (w : World) (h : Try.Lone w0 w g v d) (hk : keep ≤ 9223372036854775807) (hk2 : -9223372036854775808 ≤ keep) :
    Calls Try.prog 26 #[.pointer (some ⟨g, 0, none⟩), .int .i64 keep] w fun e w' => e = .returned (.tuple #[]) ∧ ∃ v', Try.Lone w0 w' g v' (d.crash keep) :=
  (scrash_calls g v d keep w h.slab hk hk2).mono fun e w' hh => by
    obtain ⟨he, v', h1, h2, h3, h4⟩ := hh
    refine ⟨he, v', h1, grown_new h.grown h2 (fun q hq => by cases hq; exact h.new _ (.inl rfl)), fun k hk => ?_⟩
    rcases hk with rfl | hk
    · exact h.new _ (.inl rfl)
    · rw [h4] at hk; exact h.new k (.inr hk)
set_option maxRecDepth 100000 in
set_option maxHeartbeats 4000000 in
set_option linter.unusedSimpArgs false in
theorem whole_calls (x : Value) (vs : List Value) (ls : List (List UInt8)) (steps keep : Int) (w : World) (hread : ListsAt w x vs ls) (hst : steps ≤ 9223372036854775807) (hk1 : keep ≤ 9223372036854775807) (hk2 : -9223372036854775808 ≤ keep) :
    Calls Try.prog 8 #[x, .int .i64 steps, .int .i64 keep] w fun e w' => e = .returned (.bool true) ∧ w.grownBy w' none := by
  obtain ⟨ad, cap, hv, hcs, hbs⟩ := id hread
  subst hv
  obtain ⟨n, hn⟩ : ∃ n, n = ls.length := ⟨_, rfl⟩
  rw [← hn] at hcs hbs
  have HN := Lib.hid hn
  have HK := Lib.hid (And.intro hst (And.intro hk1 hk2))
  rw [← hn]
  clear hn hread hst hk1 hk2
  go_enter Try.func8, Try.ntmps8
  go_wp2_with fail
  refine (writes_calls w).mono ?_
  rintro e0 W0 ⟨rfl, hg0⟩
  by_cases hn0 : n = 0
  · subst hn0
    go_wp2_with fail
    go_ret
    exact ⟨rfl, hg0⟩
  have hz1 : ((n : Int) == 0) = false := by rw [beq_eq_false_iff_ne]; omega
  have hz2 : ¬ (n : Int) = 0 := by omega
  by_cases hlen : 12 < n
  · have hlen' : (12 : Int) < n := by omega
    have hb1 : decide ((12 : Int) < n) = true := decide_eq_true hlen'
    go_wp2_with fail
    go_ret
    exact ⟨rfl, hg0⟩
  have hlen' : ¬ (12 : Int) < n := by omega
  have hb1 : decide ((12 : Int) < n) = false := decide_eq_false hlen'
  go_wp2_with fail
  refine (snew_live w 100000 (by omega) W0 hg0).mono ?_
  rintro e1 W1 ⟨g, rfl, -, hL1, -⟩
  go_wp2_with fail
  refine (jopen_full g _ 100000 [] W1 hL1 (by simp)).mono ?_
  rintro e2 W2 ⟨j, rv, es, v2, rfl, hV2, -, -⟩
  clear hL1 hg0
  have HV2 := Lib.hid hV2
  clear hV2
  go_wp2_with fail
  have e1 : IntKind.i64.wrap ((n : Int) - 1) = n - 1 := IntWalk.i64_in _ (by omega)
  have hnpos : 0 < n := by omega
  go_loopw [48] (fun s48 wr => ∃ k : Nat, k ≤ n ∧ s48 = .int .i64 k ∧ (∀ d ∈ ls.take k, d.length ≤ 300) ∧ ((k < n ∧ ∃ v rv es, Try.Live w wr g v (full 100000 (ls.take k)) j rv es (jfull (ls.take k))) ∨
    (k = n ∧ ∃ v, Try.Lone w wr g v ((jfull (ls.take (n - 1))).write ((full 100000 (ls.take (n - 1))).brk steps) (ls.getD (n - 1) [])).2.1))) (fun i _ => n - (intOf i).toNat)
  case atStart => exact ⟨0, by omega, rfl, by simp, .inl ⟨hnpos, _, _, _, HV2.out⟩⟩
  case round =>
    obtain ⟨k, hk, rfl, hle, hor⟩ := hrel
    clear HV2
    by_cases hkn : k < n
    · obtain ⟨v, rv, es, hV⟩ : ∃ v rv es, Try.Live w wr g v (full 100000 (ls.take k)) j rv es (jfull (ls.take k)) := by
        rcases hor with ⟨_, h⟩ | ⟨h, _⟩
        · exact h
        · omega
      clear hor
      have hki : (k : Int) < n := by omega
      obtain ⟨b, o, rfl, hcells⟩ := hcs.resolve_left (fun e => by have := HN.out; rw [e] at this; simp at this; omega)
      have ck := cell_grown hV.lone.grown _ _ (hcells k hkn)
      have hbk := hbs k hkn
      obtain ⟨e, he⟩ : ∃ e, e = vs.getD k undef := ⟨_, rfl⟩
      obtain ⟨d, hd⟩ : ∃ d, d = ls.getD k [] := ⟨_, rfl⟩
      rw [← he, ← hd] at hbk
      rw [← he] at ck
      have hold : d ≠ [] → ∀ q, e.ownBlock = some q → q < w.heap.size := fun hd q hq => by obtain ⟨q', hq', hlt⟩ := hbk.block hd; rw [hq] at hq'; cases hq'; exact hlt
      obtain ⟨ade, cape, hev, _⟩ := id hbk
      obtain ⟨m, hm⟩ : ∃ m, m = d.length := ⟨_, rfl⟩
      rw [← hm] at hev
      subst hev
      have hsucc : ls.take (k + 1) = ls.take k ++ [d] := by rw [hd]; exact take_snoc' ls k (by have := HN.out; omega)
      have hlk : (ls.take k).length = k := by rw [List.length_take, ← HN.out]; omega
      have HX := Lib.hid (And.intro hbk (And.intro hold (And.intro hm (And.intro hd (And.intro hle (And.intro hsucc hlk))))))
      have HV := Lib.hid hV
      clear he hd hold hbk hm hle hsucc hV hlk
      by_cases h300 : 300 < m
      · have h300i : (300 : Int) < m := by omega
        have hG := HV.out.lone.grown
        go_wp2_with fail
        go_ret
        exact ⟨rfl, hG⟩
      have h300i : ¬ (300 : Int) < m := by omega
      have e3 : IntKind.i64.wrap ((k : Int) + 1) = k + 1 := IntWalk.i64_in _ (by omega)
      have hle1 : ∀ y ∈ ls.take (k + 1), y.length ≤ 300 := by
        rw [HX.out.2.2.2.2.2.1]; intro y hy
        rcases List.mem_append.1 hy with hy | hy
        · exact HX.out.2.2.2.2.1 y hy
        · rw [List.mem_singleton.1 hy, ← HX.out.2.2.1]; omega
      have HLE := Lib.hid hle1
      clear hle1
      by_cases hlast : k + 1 = n
      · have hqb : ((k : Int) == n - 1) = true := by rw [beq_iff_eq]; omega
        have hql : decide ((k : Int) < n - 1) = false := decide_eq_false (by omega)
        have hql2 : ¬ (k : Int) < n - 1 := by omega
        have HLA := Lib.hid hlast
        clear hlast
        go_wp2_with fail
        refine (sbreak_calls g v (full 100000 (ls.take k)) steps wr HV.out.lone.slab HK.out.1).mono ?_
        rintro e4 W4 ⟨rfl, hS4, hg4, -⟩
        have HV4 := Lib.hid (HV.out.brk hS4 hg4)
        clear hS4 hg4 HV
        go_wp2_with fail
        refine (jwrite_live2 g v _ j rv es (jfull (ls.take k)) _ d W4 HV4.out (HX.out.1.grown0 HV4.out.lone.grown) (fun hd => HV4.out.old (HX.out.2.1 hd)) (by simp only [jfull]; rw [HX.out.2.2.2.2.2.2]; omega)).mono ?_
        rintro e5 W5 ⟨rfl, v5, rv5, es5, hV5, -⟩
        obtain ⟨cd, hcd⟩ : ∃ c, c = ((jfull (ls.take k)).write ((full 100000 (ls.take k)).brk steps) d).2.2 := ⟨_, rfl⟩
        rw [← hcd]
        have HV5 := Lib.hid hV5.lone
        clear hcd hV5 HV4
        go_wp2_with fail
        go_roundw
        case rel =>
          refine ⟨k + 1, by omega, by go_num, HLE.out, .inr ⟨HLA.out, v5, ?_⟩⟩
          have hk1 : k = n - 1 := by have := HLA.out; omega
          have h5 := HV5.out
          rw [HX.out.2.2.2.1, hk1] at h5
          exact h5
        case measure => simp [intOf]; omega
      · have hqb : ((k : Int) == n - 1) = false := by rw [beq_eq_false_iff_ne]; omega
        have hql : decide ((k : Int) < n - 1) = true := decide_eq_true (by omega)
        have hql2 : (k : Int) < n - 1 := by omega
        have HLA := Lib.hid hlast
        clear hlast
        go_wp2_with fail
        refine (jwrite_full g v 100000 (ls.take k) j rv es _ d wr HV.out (HX.out.1.grown0 HV.out.lone.grown) (fun hd => HV.out.old (HX.out.2.1 hd)) (by rw [HX.out.2.2.2.2.2.2]; omega) (by have := HX.out.2.2.1; omega)
          (by have h1 := total_le (ls.take k) 300 HX.out.2.2.2.2.1; have h2 := HX.out.2.2.1; rw [HX.out.2.2.2.2.2.2] at h1; omega)).mono ?_
        rintro e5 W5 ⟨rfl, v5, rv5, es5, hV5, -, -⟩
        rw [← HX.out.2.2.2.2.2.1] at hV5
        have HV5 := Lib.hid hV5
        clear hV5 HV
        go_wp2_with fail
        go_roundw
        case rel => exact ⟨k + 1, by omega, by go_num, HLE.out, .inl ⟨by have := HLA.out; omega, v5, rv5, es5, HV5.out⟩⟩
        case measure => simp [intOf]; omega
    · obtain rfl : k = n := by omega
      obtain ⟨v, hL⟩ : ∃ v, Try.Lone w wr g v ((jfull (ls.take (k - 1))).write ((full 100000 (ls.take (k - 1))).brk steps) (ls.getD (k - 1) [])).2.1 := by
        rcases hor with ⟨h, _⟩ | ⟨_, h⟩
        · omega
        · exact h
      clear hor
      have hnl := HN.out
      have hls : ls.take k = ls := List.take_of_length_le (by omega)
      rw [hls] at hle
      have hle' : ∀ y ∈ ls.take (k - 1), y.length ≤ 300 := fun y hy => hle y (List.mem_of_mem_take hy)
      obtain ⟨b0, hb0⟩ : ∃ b, b = ls.getD (k - 1) [] := ⟨_, rfl⟩
      have hb300 : b0.length ≤ 300 := by
        rw [hb0, List.getD_eq_getElem?_getD, List.getElem?_eq_getElem (by omega)]
        exact hle _ (List.getElem_mem _)
      obtain ⟨ds0, hds0⟩ : ∃ d, d = ls.take (k - 1) := ⟨_, rfl⟩
      rw [← hds0, ← hb0] at hL
      rw [← hds0] at hle'
      have hdl : ds0.length = k - 1 := by rw [hds0, List.length_take]; omega
      have htot := total_le ds0 300 hle'
      rw [hdl] at htot
      obtain ⟨r, hr, hcr, himp, _⟩ := broken_write 100000 ds0 b0 steps keep (by omega) (by omega)
      obtain ⟨N, hN⟩ : ∃ N, N = (if r = 35 + b0.length then k else k - 1) := ⟨_, rfl⟩
      have hleft : left ds0 b0 r = ls.take N := by rw [hds0, hb0, hN, hb0]; exact left_take ls k r hnl hnpos
      have hN1 : k - 1 ≤ N ∧ N ≤ k := by rw [hN]; split <;> omega
      have hN2 : steps < 0 ∨ 1 < steps → N = k := fun h => by rw [hN, if_pos (himp h)]
      have hop := opened_torn 100000 ds0 b0 r (fun d hd => by have := hle' d hd; omega) (by omega) hr
      rw [hleft] at hop
      have hok : ∀ y ∈ ls.take N, y.length < 16777216 := fun y hy => by have := hle y (List.mem_of_mem_take hy); omega
      have hlN : (ls.take N).length = N := by rw [List.length_take]; omega
      have htN := total_le (ls.take N) 300 (fun y hy => hle y (List.mem_of_mem_take hy))
      rw [hlN] at htN
      have H := Lib.hid (And.intro hN1 (And.intro hN2 (And.intro hop (And.intro hok (And.intro hlN (And.intro htN (And.intro hle hcr)))))))
      have HL := Lib.hid hL
      clear hnl hls hle hle' hb0 hb300 hds0 hdl htot hr hcr himp hN hleft hN1 hN2 hop hok hlN htN hL
      go_wp2_with fail
      refine (scrash_live g v _ keep wr HL.out HK.out.2.1 HK.out.2.2).mono ?_
      rintro e4 W4 ⟨rfl, v4, hL4⟩
      rw [H.out.2.2.2.2.2.2.2] at hL4
      have HL4 := Lib.hid hL4
      clear hL4 HL
      go_wp2_with fail
      refine (jopen_live g v4 _ W4 HL4.out).mono ?_
      rintro e5 W5 ⟨v5, hL5, hs5, hv5, hh⟩
      rw [H.out.2.2.1] at hh hL5
      obtain ⟨j7, rv7, es7, rfl, hV7, hn7⟩ : ∃ j rv es, e5 = .returned (.tuple #[.pointer (some ⟨j, 0, none⟩), .int .i64 0]) ∧ Try.Live w W5 g v5 (full 100000 (ls.take N)) j rv es (jfull (ls.take N)) ∧ ∀ q, JFoot j rv es q → W4.heap.size ≤ q := by
        rcases hh with ⟨s, hs, _, j, rv, es, h1, h2, h3⟩ | ⟨hn, _⟩
        · cases hs; exact ⟨j, rv, es, h1, h2, h3⟩
        · cases hn
      have HV7 := Lib.hid hV7
      clear hh hL5 hs5 hv5 hn7 HL4 hV7
      go_upto_region 24 with fail
      go_cut [127] from 85 to 127 (fun s127 wx => s127 = .bool false ∧ wx = W5)
      case first =>
        have q1 : decide ((N : Int) < k - 1) = false := decide_eq_false (by have := H.out.1; omega)
        have q2 : decide ((N : Int) > k) = false := decide_eq_false (by have := H.out.1; omega)
        have q1' : ¬ (N : Int) < k - 1 := by have := H.out.1; omega
        have q2' : ¬ k < N := by have := H.out.1; omega
        have hrl : (jfull (ls.take N)).records.length = N := H.out.2.2.2.2.1
        have HRL := Lib.hid hrl
        clear hrl
        by_cases s0 : steps < 0
        · have s0' : decide (steps < 0) = true := decide_eq_true s0
          have s1' : decide (steps > 1) = false := decide_eq_false (by omega)
          have s1 : ¬ 1 < steps := by omega
          have hNk := H.out.2.1 (.inl s0)
          have q3 : decide ((N : Int) < k) = false := decide_eq_false (by omega)
          have q3' : ¬ N < k := by omega
          have HNK := Lib.hid hNk
          clear hNk
          go_wp2_with fail
          refine (jlen_calls j7 g rv7 es7 _ W5 HV7.out.jour).mono ?_
          rintro e6 W6 ⟨rfl, rfl⟩
          rw [HRL.out]
          go_wp2_with fail
          refine (jlen_calls j7 g rv7 es7 _ W5 HV7.out.jour).mono ?_
          rintro e6 W6 ⟨rfl, rfl⟩
          rw [HRL.out]
          go_wp2_with fail
          refine (jlen_calls j7 g rv7 es7 _ W5 HV7.out.jour).mono ?_
          rintro e6 W6 ⟨rfl, rfl⟩
          rw [HRL.out]
          go_wp2_with fail
          go_meet
          exact ⟨rfl, rfl⟩
        · by_cases s1 : 1 < steps
          · have s0' : decide (steps < 0) = false := decide_eq_false s0
            have s1' : decide (steps > 1) = true := decide_eq_true s1
            have hNk := H.out.2.1 (.inr s1)
            have q3 : decide ((N : Int) < k) = false := decide_eq_false (by omega)
            have q3' : ¬ N < k := by omega
            have HNK := Lib.hid hNk
            clear hNk
            go_wp2_with fail
            refine (jlen_calls j7 g rv7 es7 _ W5 HV7.out.jour).mono ?_
            rintro e6 W6 ⟨rfl, rfl⟩
            rw [HRL.out]
            go_wp2_with fail
            refine (jlen_calls j7 g rv7 es7 _ W5 HV7.out.jour).mono ?_
            rintro e6 W6 ⟨rfl, rfl⟩
            rw [HRL.out]
            go_wp2_with fail
            refine (jlen_calls j7 g rv7 es7 _ W5 HV7.out.jour).mono ?_
            rintro e6 W6 ⟨rfl, rfl⟩
            rw [HRL.out]
            go_wp2_with fail
            go_meet
            exact ⟨rfl, rfl⟩
          · have s0' : decide (steps < 0) = false := decide_eq_false s0
            have s1' : decide (steps > 1) = false := decide_eq_false s1
            go_wp2_with fail
            refine (jlen_calls j7 g rv7 es7 _ W5 HV7.out.jour).mono ?_
            rintro e6 W6 ⟨rfl, rfl⟩
            rw [HRL.out]
            go_wp2_with fail
            refine (jlen_calls j7 g rv7 es7 _ W5 HV7.out.jour).mono ?_
            rintro e6 W6 ⟨rfl, rfl⟩
            rw [HRL.out]
            go_wp2_with fail
            go_meet
            exact ⟨rfl, rfl⟩
      case rest =>
        obtain ⟨rfl, rfl⟩ := hcut
        have hrl : (jfull (ls.take N)).records.length = N := H.out.2.2.2.2.1
        have HRL := Lib.hid hrl
        clear hrl
        go_wp2_with fail
        go_loopw [16] (fun s16 wr => ∃ (i : Nat), i ≤ N ∧ s16 = .int .i64 i ∧ Try.Live w wr g v5 (full 100000 (ls.take N)) j7 rv7 es7 (jfull (ls.take N))) (fun i _ => N - (intOf i).toNat)
        case atStart => exact ⟨0, by omega, rfl, HV7.out⟩
        case round =>
          obtain ⟨i, hi, rfl, hV⟩ := hrel
          have HV := Lib.hid hV
          clear hV HV7
          go_wp2_with fail
          refine (jlen_calls j7 g rv7 es7 _ _ HV.out.jour).mono ?_
          rintro e6 W6 ⟨rfl, rfl⟩
          rw [HRL.out]
          by_cases hiN : i < N
          · have hNk := H.out.1
            have hik : i < k := by omega
            have hii : (i : Int) < N := by omega
            have hiki : (i : Int) < k := by omega
            obtain ⟨b, o, rfl, hcells⟩ := hcs.resolve_left (fun e => by have := HN.out; rw [e] at this; simp at this; omega)
            have ck0 := cell_grown HV.out.lone.grown _ _ (hcells i hik)
            have hbk := (hbs i hik)
            obtain ⟨e, he⟩ : ∃ e, e = vs.getD i undef := ⟨_, rfl⟩
            obtain ⟨d, hd⟩ : ∃ d, d = ls.getD i [] := ⟨_, rfl⟩
            rw [← he, ← hd] at hbk
            rw [← he] at ck0
            obtain ⟨ade, cape, hev, _⟩ := id hbk
            obtain ⟨m, hm⟩ : ∃ m, m = d.length := ⟨_, rfl⟩
            rw [← hm] at hev
            subst hev
            have hrd : (jfull (ls.take N)).records.getD i [] = d := by
              rw [hd]; simp only [jfull, List.getD_eq_getElem?_getD, List.getElem?_take, if_pos hiN]
            have hdl : d.length < 1099511627776 := by
              have := H.out.2.2.2.2.2.2.1 d (by rw [hd, List.getD_eq_getElem?_getD, List.getElem?_eq_getElem (by have := HN.out; omega)]; exact List.getElem_mem _)
              omega
            have HX := Lib.hid (And.intro hbk (And.intro hrd hdl))
            clear he hd hbk hm hrd hdl hNk hcs hbs
            go_wp2_with fail
            refine (jat_calls j7 g rv7 es7 _ i _ HV.out.jour (by rw [HRL.out]; exact hiN) (by rw [HX.out.2.1]; exact HX.out.2.2)).mono ?_
            rintro e7 W7 ⟨u, rfl, hru, hg7⟩
            rw [HX.out.2.1] at hru
            have hbu : BytesAt W7.drew u d := hru.bytes.grown0 (grown_drew W7 none)
            obtain ⟨adu, nu, capu, hu⟩ := hru.shape
            subst hu
            have ck := cell_grown hg7 _ _ ck0
            have hbe : BytesAt W7.drew (.slice ade m cape) d := HX.out.1.grown0 (grown_trans (grown_trans HV.out.lone.grown hg7) (grown_drew W7 none))
            have HV8 := Lib.hid ((HV.out.step hg7).step (grown_drew W7 none))
            have e3 : IntKind.i64.wrap ((i : Int) + 1) = i + 1 := IntWalk.i64_in _ (by omega)
            have hdd : (d == d) = true := by simp
            clear hru hg7 ck0 HV
            go_wp2_with fail
            refine wp_region_still_lit (by kernel_rfl) (by kernel_rfl) ?_
            still_step
            still_step
            still_step
            still_step
            refine wpStill_step (fun K hK => ?_)
            refine gstill_bstring rfl rfl _ d 5 rfl hbu Try.ubytes Try.uu8 Try.ustr ?_
            refine hK _ ?_
            clear hK K
            simp only [Act.put, List.setIfInBounds_toArray, List.set_cons_zero, List.set_cons_succ]
            still_step
            still_step
            still_step
            still_step
            refine wpStill_step (fun K hK => ?_)
            refine gstill_bstring rfl rfl _ d 5 rfl hbe Try.ubytes Try.uu8 Try.ustr ?_
            refine hK _ ?_
            clear hK K
            simp only [Act.put, List.setIfInBounds_toArray, List.set_cons_zero, List.set_cons_succ]
            still_step
            still_step
            refine wpStill_nil ?_
            change Exit.then _ _ _ _ W7.drew
            go_wp2_with fail
            go_roundw
            case rel => exact ⟨i + 1, by omega, by go_num, HV8.out⟩
            case measure => simp [intOf]; omega
          · obtain rfl : i = N := by omega
            go_wp2_with fail
            refine (jopen_full g v5 100000 _ _ HV.out.lone H.out.2.2.2.1).mono ?_
            rintro e8 W8 ⟨j9, rv9, es9, v9, rfl, hV9, hs9, hn9, ho9⟩
            have hJ7 : Try.JourAt W8 j7 g rv7 es7 (jfull (ls.take i)) := HV.out.jour.same hs9 (fun q hq e => HV.out.sep q (.inl e) hq)
            have hns : ∀ q, JFoot j7 rv7 es7 q → ¬ SFoot g v9 q ∧ q ≠ j9 ∧ rv9.ownBlock ≠ some q := fun q hq => by
              have hlt := HV.out.jour.lt q hq
              refine ⟨fun h => ?_, fun e => ?_, fun e => ?_⟩
              · rcases h with rfl | h
                · exact HV.out.sep _ (.inl rfl) hq
                · rw [ho9] at h; exact HV.out.sep q (.inr h) hq
              · have := hn9 q (.inl e); omega
              · have := hn9 q (.inr (.inl e)); omega
            have H8 := Lib.hid (And.intro hV9 (And.intro hJ7 hns))
            have kc := fun (w : World) (C : Array Value) (n c : Nat) => Lib.run_convert_bytes_const (P := Try.prog) w 30 5 C n c Try.ubytes Try.uu8
            clear hV9 hs9 hn9 ho9 hJ7 hns HV
            go_wp2_with fail
            refine (jlen_calls j9 g rv9 es9 _ W8 H8.out.1.jour).mono ?_
            rintro e9 W9 ⟨rfl, rfl⟩
            rw [HRL.out]
            go_wp2_with fail
            refine (jlen_calls j7 g rv7 es7 _ W8 H8.out.2.1).mono ?_
            rintro e9 W9 ⟨rfl, rfl⟩
            rw [HRL.out]
            go_wp2_with fail
            obtain ⟨W3, hW3⟩ : ∃ W3, W3 = W8.alloc (Obj.cells #[.int .u8 109, .int .u8 111, .int .u8 114, .int .u8 101] 5 (4, 5)) := ⟨_, rfl⟩
            obtain ⟨g3, hg3⟩ : ∃ g, g = W8.heap.size := ⟨_, rfl⟩
            have G23 : W8.grownBy W3 none := by rw [hW3]; exact World.grownBy_alloc _ _ none
            have hb3 : BytesAt W3 (.slice (some ⟨g3, 0, none⟩) 4 4) [109, 111, 114, 101] := by
              refine ⟨_, 4, rfl, .inr ⟨g3, 0, rfl, fun i hi => ?_⟩⟩
              have hh : W3.heap[g3]? = some (.cells #[.int .u8 109, .int .u8 111, .int .u8 114, .int .u8 101] 5 (4, 5)) := by rw [hW3, hg3]; exact heap_alloc_new W8 _
              simp only [World.cell?, hh, Nat.zero_add]
              match i, hi with
              | 0, _ => rfl
              | 1, _ => rfl
              | 2, _ => rfl
              | 3, _ => rfl
            rw [← hW3, ← hg3]
            have hlt := H8.out.1.later (k := g3) (by omega)
            have hV3 := H8.out.1.step G23
            have hJ3 : Try.JourAt W3 j7 g rv7 es7 (jfull (ls.take i)) := H8.out.2.1.same (R := fun _ => True) (Same.of_grown G23 (fun _ _ => by simp)) (fun _ _ => trivial)
            clear hW3 hg3 G23 kc
            refine (jwrite_live2 g v9 (full 100000 (ls.take i)) j9 rv9 es9 (jfull (ls.take i)) _ [109, 111, 114, 101] W3 hV3 hb3 (fun _ q hq => by obtain rfl : g3 = q := Option.some.inj hq; exact ⟨hlt.1, fun e => hlt.2 (.inl e), fun e => hlt.2 (.inr (.inl e))⟩) (by rw [HRL.out]; have := H.out.1; omega)).mono ?_
            rintro e10 W10 ⟨rfl, v10, rv10, es10, hV10, hs10, -, -⟩
            have hwf := write_full 100000 (ls.take i) [109, 111, 114, 101] (by decide) (by have := H.out.2.2.2.2.2.1; have := H.out.1; simp only [List.length_cons, List.length_nil]; omega)
            rw [hwf] at hV10 ⊢
            have hJ10 := hJ3.same hs10 (fun q hq => H8.out.2.2 q hq)
            have hr2 : (jfull (ls.take i ++ [[109, 111, 114, 101]])).records.length = i + 1 := by have := H.out.2.2.2.2.1; simp only [jfull, List.length_append, this, List.length_singleton]
            have hr3 : (jfull (ls.take i ++ [[109, 111, 114, 101]])).records.getD i [] = [109, 111, 114, 101] := by
              have := H.out.2.2.2.2.1
              simp only [jfull, List.getD_eq_getElem?_getD]
              rw [List.getElem?_append_right (by omega), this, Nat.sub_self]; rfl
            obtain ⟨s10, hs10'⟩ : ∃ s, s = jfull (ls.take i ++ [[109, 111, 114, 101]]) := ⟨_, rfl⟩
            rw [← hs10'] at hr2 hr3
            have hJ9 := hV10.jour
            rw [show ((jfull (ls.take i ++ [[109, 111, 114, 101]]), full 100000 (ls.take i ++ [[109, 111, 114, 101]]), (0 : Int)) : Jour × Disk × Int).1 = s10 from hs10'.symm] at hJ9
            have H10 := Lib.hid (And.intro hJ9 (And.intro hJ10 (And.intro hr2 hr3)))
            have hG10 := hV10.lone.grown
            clear hwf hV10 hs10 hJ10 hr2 hr3 hs10' hJ9 hV3 hJ3 hb3 hlt H8
            go_wp2_with fail
            refine (jlen_calls j7 g rv7 es7 _ W10 H10.out.2.1).mono ?_
            rintro e11 W11 ⟨rfl, rfl⟩
            rw [HRL.out]
            go_wp2_with fail
            refine (jat_calls j9 g rv10 es10 s10 i W10 H10.out.1 (by rw [H10.out.2.2.1]; omega) (by rw [H10.out.2.2.2]; decide)).mono ?_
            rintro e12 W12 ⟨u, rfl, hru, hg12⟩
            rw [H10.out.2.2.2] at hru
            have hbu := hru.bytes
            have hG12 := grown_trans hG10 hg12
            obtain ⟨adu, nu, capu, hu⟩ := hru.shape
            subst hu
            clear hru hg12 hG10
            go_wp2_with ((refine wpList_step (fun K hK => ?_); refine gstep_bstring (some 188) rfl rfl rfl _ [109, 111, 114, 101] 5 rfl hbu Try.ubytes Try.uu8 Try.ustr ?_; refine hK _ _ ?_; clear hK K))
            go_ret
            exact ⟨rfl, hG12⟩
end Go.Proofs.Yteicjpjniaohhaa
