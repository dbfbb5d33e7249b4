/- JournalAgain: the walk. -/
import Derived.Test.YteicjpjniaohhaaWrites
namespace Scv
theorem take_snoc' (ls : List (List UInt8)) (k : Nat) (h : k < ls.length) : ls.take (k + 1) = ls.take k ++ [ls.getD k []] := by
  rw [List.take_succ_eq_append_getElem h, List.getD_eq_getElem?_getD, List.getElem?_eq_getElem h]; rfl
theorem forall_take {p : List UInt8 → Prop} {ls : List (List UInt8)} {k : Nat} (h : k < ls.length) (h1 : ∀ d ∈ ls.take k, p d) (h2 : p (ls.getD k [])) : ∀ d ∈ ls.take (k + 1), p d := by
  rw [take_snoc' ls k h]; intro d hd
  rcases List.mem_append.1 hd with hd | hd
  · exact h1 d hd
  · rw [List.mem_singleton.1 hd]; exact h2
end Scv
namespace Go.Proofs.Yteicjpjniaohhaa
open Go.RowKit Go.Shelf Scv
theorem opened_whole (d : Disk) (ds : List (List UInt8)) (hb : d.bytes = recsB zero32 ds) (h : ∀ d ∈ ds, d.length < 16777216) : opened d = (some (jfull ds), d, 0) := by
  have hs : scanA d.bytes zero32 = some (ds, lastOf zero32 ds, total ds) := by
    have := scanA_recs ds zero32 [] h
    rw [List.append_nil, scanA_nil] at this
    rw [hb]; simpa [Scv.ahead] using this
  unfold opened
  rw [hs]
  simp only []
  rw [if_neg (by rw [hb, recsB_length]; omega)]
  rfl
set_option maxRecDepth 100000 in
set_option maxHeartbeats 4000000 in
set_option linter.unusedSimpArgs false in
theorem again_calls (x : Value) (vs : List Value) (ls : List (List UInt8)) (times : Int) (w : World) (hread : ListsAt w x vs ls) :
    Calls Try.prog 3 #[x, .int .i64 times] w fun e w' => e = .returned (.bool true) ∧ w.grownBy w' none := by
  obtain ⟨ad, cap, hv, hcs, hbs⟩ := id hread
  subst hv
  obtain ⟨n, hn⟩ : ∃ n, n = ls.length := ⟨_, rfl⟩
  rw [← hn] at hcs hbs
  have HN := Lib.hid hn
  rw [← hn]
  clear hn hread
  go_enter Try.func3, Try.ntmps3
  go_wp2_with fail
  refine (writes_calls w).mono ?_
  rintro e0 W0 ⟨rfl, hg0⟩
  by_cases hlen : 10 < n
  · have hlen' : (10 : Int) < n := by omega
    go_wp2_with fail
    go_ret
    exact ⟨rfl, hg0⟩
  by_cases ht1 : times < 1
  · have hlen' : ¬ (10 : Int) < n := by omega
    go_wp2_with fail
    go_ret
    exact ⟨rfl, hg0⟩
  by_cases ht5 : 5 < times
  · have hlen' : ¬ (10 : Int) < n := by omega
    have ht1' : 1 ≤ times := by omega
    go_wp2_with fail
    go_ret
    exact ⟨rfl, hg0⟩
  have hlen' : ¬ (10 : Int) < n := by omega
  have hlenB : (n : Int) ≤ 10 := by omega
  have hb1 : decide ((10 : Int) < n) = false := decide_eq_false hlen'
  have hb2 : decide (times < 1) = false := decide_eq_false ht1
  have hb3 : decide (5 < times) = false := decide_eq_false ht5
  have ht1' : 1 ≤ times := by omega
  have ht5' : times ≤ 5 := by omega
  go_wp2_with fail
  refine (snew_live w 50000 (by omega) W0 hg0).mono ?_
  rintro e1 W1 ⟨g, rfl, -, hL1, -⟩
  obtain ⟨t, rfl⟩ : ∃ t : Nat, times = t := ⟨times.toNat, by omega⟩
  go_wp2_with (with_reducible apply law_alloc _ Try.zid)
  intro W2 hb2 hg2 hz2
  obtain ⟨g8, hg8⟩ : ∃ g, g = W1.heap.size := ⟨_, rfl⟩
  rw [← hg8] at hb2
  rw [← hg8]
  replace hb2 : Blk W2 g8 (u8s zero32) 29 := hb2
  have hL2 := hL1.step hg2
  have hn8 : ¬ SFoot g (.slice none 0 0) g8 := fun h => by have := hL1.slab.lt _ h; omega
  have hw8 : w.heap.size ≤ g8 := by have := hL1.grown.size; omega
  clear hg8 hz2 hg2 hL1 hg0
  go_wp2_with fail
  go_loopw [7, 39] (fun s7 s39 wr => ∃ (k : Nat) (v : Value), k ≤ n ∧ s7 = .int .i64 k ∧ s39 = .int .i64 k ∧ Try.Lone w wr g v (full 50000 (ls.take k)) ∧ Blk wr g8 (u8s (lastOf zero32 (ls.take k))) 29 ∧ ¬ SFoot g v g8 ∧ ∀ d ∈ ls.take k, d.length ≤ 300) (fun _ i _ => n - (intOf i).toNat)
  case atStart => exact ⟨0, _, by omega, rfl, rfl, hL2, hb2, hn8, by simp⟩
  case round =>
    obtain ⟨k, v, hk, rfl, rfl, hL, hB, hnf, hle⟩ := hrel
    clear hL2 hb2 hn8
    by_cases hkn : k < n
    · have hki : (k : Int) < n := by omega
      obtain ⟨b, o, rfl, hcells⟩ := hcs.resolve_left (fun e => by have := HN.out; rw [e] at this; simp at this; omega)
      have ck := cell_grown hL.grown _ _ (hcells k hkn)
      have hbk := hbs k hkn
      obtain ⟨e, he⟩ : ∃ e, e = vs.getD k undef := ⟨_, rfl⟩
      obtain ⟨d, hd⟩ : ∃ d, d = ls.getD k [] := ⟨_, rfl⟩
      rw [← he, ← hd] at hbk
      rw [← he] at ck
      have hsucc : ls.take (k + 1) = ls.take k ++ [d] := by rw [hd]; exact take_snoc' ls k (by have := HN.out; omega)
      have HSU := Lib.hid hsucc
      have hold : d ≠ [] → ∀ q, e.ownBlock = some q → q < w.heap.size := fun hd q hq => by obtain ⟨q', hq', hlt⟩ := hbk.block hd; rw [hq] at hq'; cases hq'; exact hlt
      obtain ⟨ade, cape, hev, _⟩ := id hbk
      obtain ⟨m, hm⟩ : ∃ m, m = d.length := ⟨_, rfl⟩
      rw [← hm] at hev
      subst hev
      have hlk : (ls.take k).length = k := by rw [List.length_take, ← HN.out]; omega
      have HX := Lib.hid (And.intro hbk (And.intro hold (And.intro hm (And.intro hlk hle))))
      have hokk : ∀ x ∈ ls.take k, x.length < 16777216 := fun x hx => by have := hle x hx; omega
      have HOK := Lib.hid hokk
      clear he hd hsucc hold hbk hm hlk hle hokk
      by_cases h300 : 300 < m
      · have h300i : (300 : Int) < m := by omega
        have hG := hL.grown
        go_wp2_with fail
        go_ret
        exact ⟨rfl, hG⟩
      have h300i : ¬ (300 : Int) < m := by omega
      go_wp2_with fail
      go_loopw [7, 11] (fun s7 s11 wr => ∃ (q : Nat) (v : Value), q ≤ t ∧ s11 = .int .i64 q ∧ s7 = .int .i64 ((if q = t then k + 1 else k : Nat) : Int) ∧ Try.Lone w wr g v (full 50000 (ls.take (if q = t then k + 1 else k))) ∧
        Blk wr g8 (u8s (lastOf zero32 (ls.take (if q = t then k + 1 else k)))) 29 ∧ ¬ SFoot g v g8) (fun _ i _ => t - (intOf i).toNat)
      case atStart => exact ⟨0, v, by omega, rfl, by rw [if_neg (by omega)], by rw [if_neg (by omega)]; exact hL, by rw [if_neg (by omega)]; exact hB, hnf⟩
      case round =>
        obtain ⟨q, v3, hq, rfl, rfl, hL3, hB3, hnf3⟩ := hrel
        clear hL hB hnf
        by_cases hqt : q < t
        · have hne : ¬ q = t := by omega
          rw [if_neg hne] at hL3 hB3 ⊢
          have hqi : (q : Int) < t := by omega
          go_wp2_with fail
          refine (jopen_full g v3 50000 _ _ hL3 HOK.out).mono ?_
          rintro e5 W5 ⟨j, rv, es, v5, rfl, hL5, hs5, hnj, hov⟩
          have hB5 := hs5.blk hB3 (fun e => hnf3 (.inl e))
          have hnf5 : ¬ SFoot g v5 g8 := fun h => hnf3 (by
            rcases h with h | h
            · exact .inl h
            · rw [hov] at h; exact .inr h)
          have hjn8 : ¬ JFoot j rv es g8 := fun h => by have := hnj _ h; have := hB3.lt; omega
          obtain ⟨ds, hds⟩ : ∃ ds, ds = ls.take k := ⟨_, rfl⟩
          obtain ⟨last, hlast⟩ : ∃ last, last = lastOf zero32 ds := ⟨_, rfl⟩
          rw [← hds] at hL5 hB5
          rw [← hlast] at hB5
          have h32 : last.length = 32 := by rw [hlast]; exact lastOf_length _ _ rfl
          have hrl : (jfull ds).records.length = k := by rw [hds]; exact HX.out.2.2.2.1
          have hjl : (jfull ds).last = last := hlast.symm
          have HL := Lib.hid hL5
          have HD := Lib.hid (And.intro hds (And.intro hlast (And.intro h32 (And.intro hrl hjl))))
          have HF := Lib.hid (And.intro hnf5 hjn8)
          have hld : last.length = 32 := h32
          clear hds hlast h32 hrl hjl hL5 hnf5 hjn8 hnj hov hs5 hL3 hB3 hnf3
          have HLD := Lib.hid hld
          clear hld
          have HB5 := Lib.hid hB5
          go_wp2_with fail
          have hS0 : Blk W5.drew g8 (u8s last) 29 := hB5
          refine wp_region_held_drew (S := fun w' : World => Blk w' g8 (u8s last) 29) (by kernel_rfl) hS0 (fun _ => ?_)
          refine anyH_take 0 (some 56) (v := ?_) rfl rfl (by kernel_rfl) (by kernel_rfl) (by kernel_rfl) (fun _ _ _ h => h) (Or.inl ⟨by rfl, ?_⟩) hS0 ?_
          rotate_left
          · intro w _
            go_simp
            try (with_reducible rfl)
          simp only [Act.put, List.setIfInBounds_toArray, List.set_cons_zero, List.set_cons_succ]
          refine anyH_take 1 (some 57) (v := ?_) rfl rfl (by kernel_rfl) (by kernel_rfl) (by kernel_rfl) (fun _ _ _ h => h) (Or.inl ⟨by rfl, ?_⟩) hS0 ?_
          rotate_left
          · intro w _
            go_simp
            try (with_reducible rfl)
          simp only [Act.put, List.setIfInBounds_toArray, List.set_cons_zero, List.set_cons_succ]
          refine anyH_take 2 (some 58) (v := ?_) rfl rfl (by kernel_rfl) (by kernel_rfl) (by kernel_rfl) (fun _ _ _ h => h) (Or.inl ⟨by rfl, ?_⟩) hS0 ?_
          rotate_left
          · intro w _
            go_simp
            try (with_reducible rfl)
          simp only [Act.put, List.setIfInBounds_toArray, List.set_cons_zero, List.set_cons_succ]
          refine anyH_take 3 (some 59) (v := ?_) rfl rfl (by kernel_rfl) (by kernel_rfl) (by kernel_rfl) (fun _ _ _ h => h) (Or.inl ⟨by rfl, ?_⟩) hS0 ?_
          rotate_left
          · intro w _
            go_simp
            try (with_reducible rfl)
          simp only [Act.put, List.setIfInBounds_toArray, List.set_cons_zero, List.set_cons_succ]
          refine anyH_take 4 (some 60) (v := ?_) rfl rfl (by kernel_rfl) (by kernel_rfl) (by kernel_rfl) (fun _ _ _ h => h) (Or.inl ⟨by rfl, ?_⟩) hS0 ?_
          rotate_left
          · intro w _
            go_simp
            try (with_reducible rfl)
          simp only [Act.put, List.setIfInBounds_toArray, List.set_cons_zero, List.set_cons_succ]
          refine anyH_take 5 (some 61) (v := ?_) rfl rfl (by kernel_rfl) (by kernel_rfl) (by kernel_rfl) (fun _ _ _ h => h) (Or.inl ⟨by rfl, ?_⟩) hS0 ?_
          rotate_left
          · intro w _
            go_simp
            try (with_reducible rfl)
          simp only [Act.put, List.setIfInBounds_toArray, List.set_cons_zero, List.set_cons_succ]
          refine anyH_take 6 (some 62) (v := ?_) rfl rfl (by kernel_rfl) (by kernel_rfl) (by kernel_rfl) (fun _ _ _ h => h) (Or.inl ⟨by rfl, ?_⟩) hS0 ?_
          rotate_left
          · intro w _
            go_simp
            try (with_reducible rfl)
          simp only [Act.put, List.setIfInBounds_toArray, List.set_cons_zero, List.set_cons_succ]
          refine anyH_take 7 (some 63) (v := ?_) rfl rfl (by kernel_rfl) (by kernel_rfl) (by kernel_rfl) (fun _ _ _ h => h) (Or.inl ⟨by rfl, ?_⟩) hS0 ?_
          rotate_left
          · intro w _
            go_simp
            try (with_reducible rfl)
          simp only [Act.put, List.setIfInBounds_toArray, List.set_cons_zero, List.set_cons_succ]
          refine anyH_take 9 (some 65) (v := ?_) rfl rfl (by kernel_rfl) (by kernel_rfl) (by kernel_rfl) (fun _ _ _ h => h) (Or.inl ⟨by rfl, ?_⟩) hS0 ?_
          rotate_left
          · intro w _
            go_simp
            try (with_reducible rfl)
          simp only [Act.put, List.setIfInBounds_toArray, List.set_cons_zero, List.set_cons_succ]
          refine wpAnyH_ready (rs := [8]) (by kernel_rfl) (by simp) ?_
          refine AllReadyH.cons rfl (fun K hK => ?_) AllReadyH.nil
          refine gstep_call (some 64) rfl rfl rfl #[.pointer (some ⟨j, 0, none⟩)] rfl (fun _ => by simp [go_sem]) (jlen_calls j g rv es (jfull ds) _ (HL.out.step (grown_drew W5 none)).jour) ?_
          rintro e6 W6 ⟨rfl, rfl⟩
          rw [HD.out.2.2.2.1]
          refine ⟨_, rfl, ?_⟩
          refine hK.out _ _ hS0 (fun _ => ?_)
          clear hK K
          simp only [Act.put, List.setIfInBounds_toArray, List.set_cons_zero, List.set_cons_succ]
          refine anyH_take 10 (some 66) (v := ?_) rfl rfl (by kernel_rfl) (by kernel_rfl) (by kernel_rfl) (fun _ _ _ h => h) (Or.inl ⟨by rfl, ?_⟩) hS0 ?_
          rotate_left
          · intro w _
            go_simp
            try (with_reducible rfl)
          simp only [Act.put, List.setIfInBounds_toArray, List.set_cons_zero, List.set_cons_succ]
          refine anyH_take 11 (some 67) (v := ?_) rfl rfl (by kernel_rfl) (by kernel_rfl) (by kernel_rfl) (fun _ _ _ h => h) (Or.inl ⟨by rfl, ?_⟩) hS0 ?_
          rotate_left
          · intro w _
            go_simp
            try (with_reducible rfl)
          simp only [Act.put, List.setIfInBounds_toArray, List.set_cons_zero, List.set_cons_succ]
          refine anyH_take 12 (some 68) (v := ?_) rfl rfl (by kernel_rfl) (by kernel_rfl) (by kernel_rfl) (fun _ _ _ h => h) (Or.inl ⟨by rfl, ?_⟩) hS0 ?_
          rotate_left
          · intro w _
            go_simp
            try (with_reducible rfl)
          simp only [Act.put, List.setIfInBounds_toArray, List.set_cons_zero, List.set_cons_succ]
          refine anyH_take 13 (some 69) (v := ?_) rfl rfl (by kernel_rfl) (by kernel_rfl) (by kernel_rfl) (fun _ _ _ h => h) (Or.inl ⟨by rfl, ?_⟩) hS0 ?_
          rotate_left
          · intro w _
            go_simp
            try (with_reducible rfl)
          simp only [Act.put, List.setIfInBounds_toArray, List.set_cons_zero, List.set_cons_succ]
          refine anyH_take 15 (some 71) rfl rfl (by kernel_rfl) (by kernel_rfl) (by kernel_rfl) (fun _ _ _ h => h) (yieldsIf_load rfl rfl g8 0 (last.map vb) _ _ _ rfl (fun _ h => h) (by intro i hi; simp [u8s]) Try.uid rfl (by rw [Try.sid, List.length_map, HLD.out])) hS0 ?_
          simp only [Act.put, List.setIfInBounds_toArray, List.set_cons_zero, List.set_cons_succ]
          refine wpAnyH_ready (rs := [14]) (by kernel_rfl) (by simp) ?_
          refine AllReadyH.cons rfl (fun K hK => ?_) AllReadyH.nil
          refine gstep_call (some 70) rfl rfl rfl #[.pointer (some ⟨j, 0, none⟩)] rfl (fun _ => by simp [go_sem]) (jlast_calls j g rv es (jfull ds) _ (HL.out.step (grown_drew W5 none)).jour) ?_
          rintro e7 W7 ⟨rfl, hg7⟩
          rw [HD.out.2.2.2.2]
          have hS7 : Blk W7 g8 (u8s last) 29 := hS0.kept hg7 (by simp)
          refine ⟨_, rfl, ?_⟩
          refine hK.out _ _ hS7 (fun _ => ?_)
          clear hK K
          simp only [Act.put, List.setIfInBounds_toArray, List.set_cons_zero, List.set_cons_succ]
          refine anyH_take 16 (some 72) rfl rfl (by kernel_rfl) (by kernel_rfl) (by kernel_rfl) (fun _ _ _ h => h) (yieldsIf_neq rfl rfl 5 last last rfl rfl Try.uid Try.uu8 Try.su8 Try.gid HLD.out HLD.out) hS7 ?_
          simp only [Act.put, List.setIfInBounds_toArray, List.set_cons_zero, List.set_cons_succ]
          refine anyH_take 17 (some 73) (v := ?_) rfl rfl (by kernel_rfl) (by kernel_rfl) (by kernel_rfl) (fun _ _ _ h => h) (Or.inl ⟨by rfl, ?_⟩) hS7 ?_
          rotate_left
          · intro w _
            go_simp
            try (with_reducible rfl)
          simp only [Act.put, List.setIfInBounds_toArray, List.set_cons_zero, List.set_cons_succ]
          refine wpAnyH_done (by kernel_rfl) ?_ _
          have hL7 := (HL.out.step (grown_drew W5 none)).step hg7
          have e1 : IntKind.i64.wrap ((t : Int) - 1) = t - 1 := IntWalk.i64_in _ (by omega)
          have e2 : IntKind.i64.wrap ((q : Int) + 1) = q + 1 := IntWalk.i64_in _ (by omega)
          have e3 : IntKind.i64.wrap ((k : Int) + 1) = k + 1 := IntWalk.i64_in _ (by omega)
          clear hS0 HB5 HL
          by_cases hqe : q + 1 = t
          · have hqb : ((q : Int) == t - 1) = true := by rw [beq_iff_eq]; omega
            have HL7 := Lib.hid hL7
            have HQ := Lib.hid hqe
            clear hL7 hqe hne hqt
            go_wp2_with fail
            refine (jwrite_full g v5 50000 ds j rv es _ d W7 HL7.out (HX.out.1.grown0 HL7.out.lone.grown) (fun hd => HL7.out.old (HX.out.2.1 hd)) (by rw [HD.out.1, HX.out.2.2.2.1]; omega) (by have := HX.out.2.2.1; omega)
              (by have h1 := total_le ds 300 (by rw [HD.out.1]; exact HX.out.2.2.2.2); have h2 := HX.out.2.2.1; rw [HD.out.1, HX.out.2.2.2.1] at h1; rw [HD.out.1]; omega)).mono ?_
            rintro e8 W8 ⟨rfl, v8, rv8, es8, hL8, hs8, hf8⟩
            have hB8 := hs8.blk hS7 ⟨HF.out.1, fun e => HF.out.2 (.inl e), fun e => HF.out.2 (.inr (.inl e))⟩
            have hnf8 : ¬ SFoot g v8 g8 := fun h => by
              rcases hf8 _ h with h' | h'
              · exact HF.out.1 h'
              · have := hS7.lt; omega
            have hds8 : ds ++ [d] = ls.take (k + 1) := by rw [HSU.out, HD.out.1]
            rw [hds8] at hL8
            have HL8 := Lib.hid hL8
            have HNF8 := Lib.hid hnf8
            clear hS7 hL8 hs8 hf8 hnf8 hds8 HL7
            go_wp2_with fail
            refine (jlast_calls j g rv8 es8 (jfull (ls.take (k + 1))) W8 HL8.out.jour).mono ?_
            rintro e9 W9 ⟨rfl, hg9⟩
            obtain ⟨last2, hlast2⟩ : ∃ l, l = lastOf zero32 (ls.take (k + 1)) := ⟨_, rfl⟩
            have hjl2 : (jfull (ls.take (k + 1))).last = last2 := hlast2.symm
            rw [hjl2]
            have HLA := Lib.hid (And.intro hlast2 (show last2.length = 32 by rw [hlast2]; exact lastOf_length _ _ rfl))
            have hB9 := hB8.kept hg9 (by simp)
            have HL9 := Lib.hid (HL8.out.step hg9)
            clear hlast2 hjl2 hB8 HL8 hg9
            go_wp2_with ((with_reducible refine law_store g8 0 (last2.map vb) _ _ ?_ ?_ hB9 ?_ ?_ ?_ ?_); rfl; rfl; (rw [u8s_size, List.length_map, HLA.out.2, HLD.out]; omega); (intro v hv; obtain ⟨b, _, rfl⟩ := List.mem_map.1 hv; rfl); (rw [Try.sid, List.length_map, HLA.out.2]))
            intro W10 hB10 hg10 hz10
            rw [lay_whole _ _ (by rw [u8s_size, List.length_map, HLA.out.2, HLD.out])] at hB10
            have hL10 : Try.Lone w W10 g v8 (full 50000 (ls.take (k + 1))) :=
              ⟨HL9.out.lone.slab.same (R := fun q => q ≠ g8) (Same.of_grown hg10 (fun q hq e => hq (Option.some.inj e))) (fun q hq e => HNF8.out (e ▸ hq)), grown_new HL9.out.lone.grown hg10 (fun q hq => by cases hq; exact hw8), HL9.out.lone.new⟩
            have HL10 := Lib.hid (And.intro hL10 hB10)
            clear hL10 hB10 hg10 hz10 hB9 HL9
            go_wp2_with fail
            go_roundw
            case rel =>
              refine ⟨q + 1, v8, by omega, by go_num, by rw [if_pos HQ.out]; go_num, ?_, ?_, HNF8.out⟩
              · rw [if_pos HQ.out]; exact HL10.out.1
              · rw [if_pos HQ.out, ← HLA.out.1]; exact HL10.out.2
            case measure => simp [intOf]; omega
          · have hqb : ((q : Int) == t - 1) = false := by rw [beq_eq_false_iff_ne]; omega
            have HL7 := Lib.hid hL7
            have HQ := Lib.hid hqe
            have HS7 := Lib.hid hS7
            clear hL7 hqe hne hS7
            go_wp2_with fail
            go_roundw
            case rel =>
              refine ⟨q + 1, v5, by omega, by go_num, by rw [if_neg HQ.out], ?_, ?_, HF.out.1⟩
              · rw [if_neg HQ.out, ← HD.out.1]; exact HL7.out.lone
              · rw [if_neg HQ.out, ← HD.out.1, ← HD.out.2.1]; exact HS7.out
            case measure => simp [intOf]; omega
        · obtain rfl : q = t := by omega
          rw [if_pos rfl] at hL3 hB3 ⊢
          have e3 : IntKind.i64.wrap ((k : Int) + 1) = k + 1 := IntWalk.i64_in _ (by omega)
          have hle1 : ∀ x ∈ ls.take (k + 1), x.length ≤ 300 := by
            rw [HSU.out]; intro x hx
            rcases List.mem_append.1 hx with hx | hx
            · exact HX.out.2.2.2.2 x hx
            · rw [List.mem_singleton.1 hx, ← HX.out.2.2.1]; omega
          have HLE := Lib.hid hle1
          clear hle1
          go_wp2_with fail
          go_roundw
          case rel => exact ⟨k + 1, v3, by omega, rfl, by go_num, hL3, hB3, hnf3, HLE.out⟩
          case measure => simp [intOf]; omega
    · obtain rfl : k = n := by omega
      rw [List.take_of_length_le (by rw [← HN.out]; exact Nat.le_refl _)] at hL hB hle
      have htot : total ls ≤ 3350 := by
        have h1 := total_le ls 300 hle
        have h2 := HN.out
        rw [← h2] at h1; omega
      have hokl : ∀ x ∈ ls, x.length < 16777216 := fun x hx => by have := hle x hx; omega
      have HOK := Lib.hid (And.intro htot hokl)
      have HLL := Lib.hid hL
      have h32 := lastOf_length ls zero32 rfl
      obtain ⟨last, hlast⟩ : ∃ last, last = lastOf zero32 ls := ⟨_, rfl⟩
      rw [← hlast] at hB h32
      have HLA := Lib.hid (And.intro hlast h32)
      clear htot hokl hle hlast h32 hL
      go_wp2_with fail
      refine (snew_live w 50000 (by omega) _ HLL.out.grown).mono ?_
      rintro e3 W3 ⟨g2, rfl, hg2, hL3, hgr3⟩
      have hL13 := HLL.out.step hgr3
      have hB3 := hB.kept hgr3 (by simp)
      have hd2 : ∀ k, SFoot g v k → k < g2 := fun k hk => by have := HLL.out.slab.lt k hk; omega
      have hlt2 : g8 < g2 := by have := hB.lt; omega
      have HL13 := Lib.hid (And.intro hL13 (And.intro hd2 hlt2))
      clear hg2 hL13 hd2 hlt2 hgr3 hB HLL
      go_wp2_with fail
      refine (sbytes_calls g v (full 50000 ls) W3 HL13.out.1.slab).mono ?_
      rintro e4 W4 ⟨u, rfl, hru, hg4⟩
      have hbu := hru.bytes
      have hL4 := hL3.step hg4
      have hub : ∀ q, u.ownBlock = some q → W3.heap.size ≤ q := fun q hq => (hru.lt q hq).1
      obtain ⟨adu, nu, capu, hu⟩ := hru.shape
      subst hu
      have hB4 := hB3.kept hg4 (by simp)
      have hg2lt := hL3.slab.blk.lt
      have HL4 := Lib.hid (And.intro hL4 (And.intro hub (And.intro hbu hg2lt)))
      clear hru hg4 hL3 hL4 hub hbu hB3 hg2lt
      go_wp2_with fail
      refine (sappend_calls g2 _ (full 50000 []) _ (full 50000 ls).bytes (by have := HOK.out.1; simp [full, recsB_length]; omega) W4 HL4.out.1.slab HL4.out.2.2.1 (fun _ e => by have := HL4.out.2.1 _ e; have := HL4.out.2.2.2; omega)).mono ?_
      rintro e5 W5 ⟨rfl, v5, hS5, hN5, hf5⟩
      have hap : (full 50000 []).append (full 50000 ls).bytes = (⟨50000, recsB zero32 ls, 0, -1⟩, 0) := by
        unfold Disk.append
        rw [if_neg (by have := HOK.out.1; simp [full, recsB_length, total]; simp [total] at this; omega), if_neg (by simp [full])]
        simp [full, Disk.step, recsB, total]
        try decide
      rw [hap] at hS5 ⊢
      simp only [] at hS5 ⊢
      obtain ⟨d5, hd5⟩ : ∃ d5 : Disk, d5 = ⟨50000, recsB zero32 ls, 0, -1⟩ := ⟨_, rfl⟩
      rw [← hd5] at hS5
      have hop : opened d5 = (some (jfull ls), d5, 0) := opened_whole d5 ls (by rw [hd5]) HOK.out.2
      have hz4 := HL4.out.1.grown.size
      have hL5 : Try.Lone w W5 g2 v5 d5 := by
        refine ⟨hS5, Same.grown HL4.out.1.grown hN5 (fun k hk => ⟨fun e => ?_, fun e => ?_⟩), fun k hk => ?_⟩
        · have := HL4.out.1.new g2 (.inl rfl); omega
        · simp [Value.ownBlock] at e
        · rcases hk with rfl | hk
          · exact HL4.out.1.new _ (.inl rfl)
          · rcases hf5 k hk with h | h
            · simp [Value.ownBlock] at h
            · omega
      have hB5 : Blk W5 g8 (u8s last) 29 := hN5.blk hB4 ⟨fun e => by have := HL13.out.2.2; omega, by simp [Value.ownBlock]⟩
      have hne8 : g8 ≠ g2 := fun e => by have := HL13.out.2.2; omega
      have HL5 := Lib.hid (And.intro hL5 (And.intro hop hne8))
      clear hap hS5 hN5 hf5 hd5 hop hL5 hne8 HL4 HL13 hB4 hz4
      go_wp2_with fail
      refine (jopen_live g2 v5 d5 W5 HL5.out.1).mono ?_
      rintro e6 W6 ⟨v6, hL6, hs6, hv6, hh⟩
      rw [HL5.out.2.1] at hh
      obtain ⟨s, hs, j, rv, es, rfl, hV6⟩ : ∃ s, s = jfull ls ∧ ∃ j rv es, e6 = .returned (.tuple #[.pointer (some ⟨j, 0, none⟩), .int .i64 0]) ∧ Try.Live w W6 g2 v6 d5 j rv es s := by
        rcases hh with ⟨s, hs, _, j, rv, es, h1, h2, _⟩ | ⟨hn, _⟩
        · cases hs; exact ⟨_, rfl, j, rv, es, h1, h2⟩
        · cases hn
      clear hh hL6 hv6
      have hB6 := hs6.blk hB5 HL5.out.2.2
      have hrl : s.records.length = k := by rw [hs, HN.out]; rfl
      have hjl : s.last = last := by rw [hs, HLA.out.1]; rfl
      have HD := Lib.hid (And.intro hrl hjl)
      have HV6 := Lib.hid hV6
      have hG6 := hV6.lone.grown
      clear hrl hjl hs hV6 hs6 hB5 HL5
      go_wp2_with fail
      have hS0 : Blk W6.drew g8 (u8s last) 29 := hB6
      refine wp_region_held_drew (S := fun w' : World => Blk w' g8 (u8s last) 29) (by kernel_rfl) hS0 (fun _ => ?_)
      refine anyH_take 0 (some 105) (v := ?_) rfl rfl (by kernel_rfl) (by kernel_rfl) (by kernel_rfl) (fun _ _ _ h => h) (Or.inl ⟨by rfl, ?_⟩) hS0 ?_
      rotate_left
      · intro w _
        go_simp
        try (with_reducible rfl)
      simp only [Act.put, List.setIfInBounds_toArray, List.set_cons_zero, List.set_cons_succ]
      refine anyH_take 1 (some 106) (v := ?_) rfl rfl (by kernel_rfl) (by kernel_rfl) (by kernel_rfl) (fun _ _ _ h => h) (Or.inl ⟨by rfl, ?_⟩) hS0 ?_
      rotate_left
      · intro w _
        go_simp
        try (with_reducible rfl)
      simp only [Act.put, List.setIfInBounds_toArray, List.set_cons_zero, List.set_cons_succ]
      refine anyH_take 2 (some 107) (v := ?_) rfl rfl (by kernel_rfl) (by kernel_rfl) (by kernel_rfl) (fun _ _ _ h => h) (Or.inl ⟨by rfl, ?_⟩) hS0 ?_
      rotate_left
      · intro w _
        go_simp
        try (with_reducible rfl)
      simp only [Act.put, List.setIfInBounds_toArray, List.set_cons_zero, List.set_cons_succ]
      refine anyH_take 3 (some 108) (v := ?_) rfl rfl (by kernel_rfl) (by kernel_rfl) (by kernel_rfl) (fun _ _ _ h => h) (Or.inl ⟨by rfl, ?_⟩) hS0 ?_
      rotate_left
      · intro w _
        go_simp
        try (with_reducible rfl)
      simp only [Act.put, List.setIfInBounds_toArray, List.set_cons_zero, List.set_cons_succ]
      refine anyH_take 4 (some 109) (v := ?_) rfl rfl (by kernel_rfl) (by kernel_rfl) (by kernel_rfl) (fun _ _ _ h => h) (Or.inl ⟨by rfl, ?_⟩) hS0 ?_
      rotate_left
      · intro w _
        go_simp
        try (with_reducible rfl)
      simp only [Act.put, List.setIfInBounds_toArray, List.set_cons_zero, List.set_cons_succ]
      refine anyH_take 5 (some 110) (v := ?_) rfl rfl (by kernel_rfl) (by kernel_rfl) (by kernel_rfl) (fun _ _ _ h => h) (Or.inl ⟨by rfl, ?_⟩) hS0 ?_
      rotate_left
      · intro w _
        go_simp
        try (with_reducible rfl)
      simp only [Act.put, List.setIfInBounds_toArray, List.set_cons_zero, List.set_cons_succ]
      refine anyH_take 6 (some 111) (v := ?_) rfl rfl (by kernel_rfl) (by kernel_rfl) (by kernel_rfl) (fun _ _ _ h => h) (Or.inl ⟨by rfl, ?_⟩) hS0 ?_
      rotate_left
      · intro w _
        go_simp
        try (with_reducible rfl)
      simp only [Act.put, List.setIfInBounds_toArray, List.set_cons_zero, List.set_cons_succ]
      refine anyH_take 7 (some 112) (v := ?_) rfl rfl (by kernel_rfl) (by kernel_rfl) (by kernel_rfl) (fun _ _ _ h => h) (Or.inl ⟨by rfl, ?_⟩) hS0 ?_
      rotate_left
      · intro w _
        go_simp
        try (with_reducible rfl)
      simp only [Act.put, List.setIfInBounds_toArray, List.set_cons_zero, List.set_cons_succ]
      refine anyH_take 9 (some 114) (v := ?_) rfl rfl (by kernel_rfl) (by kernel_rfl) (by kernel_rfl) (fun _ _ _ h => h) (Or.inl ⟨by rfl, ?_⟩) hS0 ?_
      rotate_left
      · intro w _
        go_simp
        try (with_reducible rfl)
      simp only [Act.put, List.setIfInBounds_toArray, List.set_cons_zero, List.set_cons_succ]
      refine wpAnyH_ready (rs := [8]) (by kernel_rfl) (by simp) ?_
      refine AllReadyH.cons rfl (fun K hK => ?_) AllReadyH.nil
      refine gstep_call (some 113) rfl rfl rfl #[.pointer (some ⟨j, 0, none⟩)] rfl (fun _ => by simp [go_sem]) (jlen_calls j g2 rv es s _ (HV6.out.step (grown_drew W6 none)).jour) ?_
      rintro e8 W8 ⟨rfl, rfl⟩
      rw [HD.out.1]
      refine ⟨_, rfl, ?_⟩
      refine hK.out _ _ hS0 (fun _ => ?_)
      clear hK K
      simp only [Act.put, List.setIfInBounds_toArray, List.set_cons_zero, List.set_cons_succ]
      refine anyH_take 10 (some 115) (v := ?_) rfl rfl (by kernel_rfl) (by kernel_rfl) (by kernel_rfl) (fun _ _ _ h => h) (Or.inl ⟨by rfl, ?_⟩) hS0 ?_
      rotate_left
      · intro w _
        go_simp
        try (with_reducible rfl)
      simp only [Act.put, List.setIfInBounds_toArray, List.set_cons_zero, List.set_cons_succ]
      refine anyH_take 11 (some 116) (v := ?_) rfl rfl (by kernel_rfl) (by kernel_rfl) (by kernel_rfl) (fun _ _ _ h => h) (Or.inl ⟨by rfl, ?_⟩) hS0 ?_
      rotate_left
      · intro w _
        go_simp
        try (with_reducible rfl)
      simp only [Act.put, List.setIfInBounds_toArray, List.set_cons_zero, List.set_cons_succ]
      refine anyH_take 12 (some 117) (v := ?_) rfl rfl (by kernel_rfl) (by kernel_rfl) (by kernel_rfl) (fun _ _ _ h => h) (Or.inl ⟨by rfl, ?_⟩) hS0 ?_
      rotate_left
      · intro w _
        go_simp
        try (with_reducible rfl)
      simp only [Act.put, List.setIfInBounds_toArray, List.set_cons_zero, List.set_cons_succ]
      refine anyH_take 13 (some 118) (v := ?_) rfl rfl (by kernel_rfl) (by kernel_rfl) (by kernel_rfl) (fun _ _ _ h => h) (Or.inl ⟨by rfl, ?_⟩) hS0 ?_
      rotate_left
      · intro w _
        go_simp
        try (with_reducible rfl)
      simp only [Act.put, List.setIfInBounds_toArray, List.set_cons_zero, List.set_cons_succ]
      refine anyH_take 15 (some 120) rfl rfl (by kernel_rfl) (by kernel_rfl) (by kernel_rfl) (fun _ _ _ h => h) (yieldsIf_load rfl rfl g8 0 (last.map vb) _ _ _ rfl (fun _ h => h) (by intro i hi; simp [u8s]) Try.uid rfl (by rw [Try.sid, List.length_map, HLA.out.2])) hS0 ?_
      simp only [Act.put, List.setIfInBounds_toArray, List.set_cons_zero, List.set_cons_succ]
      refine wpAnyH_ready (rs := [14]) (by kernel_rfl) (by simp) ?_
      refine AllReadyH.cons rfl (fun K hK => ?_) AllReadyH.nil
      refine gstep_call (some 119) rfl rfl rfl #[.pointer (some ⟨j, 0, none⟩)] rfl (fun _ => by simp [go_sem]) (jlast_calls j g2 rv es s _ (HV6.out.step (grown_drew W6 none)).jour) ?_
      rintro e7 W7 ⟨rfl, hg7⟩
      rw [HD.out.2]
      have hS7 : Blk W7 g8 (u8s last) 29 := hS0.kept hg7 (by simp)
      refine ⟨_, rfl, ?_⟩
      refine hK.out _ _ hS7 (fun _ => ?_)
      clear hK K
      simp only [Act.put, List.setIfInBounds_toArray, List.set_cons_zero, List.set_cons_succ]
      refine anyH_take 16 (some 121) rfl rfl (by kernel_rfl) (by kernel_rfl) (by kernel_rfl) (fun _ _ _ h => h) (yieldsIf_eql rfl rfl 5 last last rfl rfl Try.uid Try.uu8 Try.su8 Try.gid HLA.out.2 HLA.out.2) hS7 ?_
      simp only [Act.put, List.setIfInBounds_toArray, List.set_cons_zero, List.set_cons_succ]
      refine anyH_take 17 (some 122) (v := ?_) rfl rfl (by kernel_rfl) (by kernel_rfl) (by kernel_rfl) (fun _ _ _ h => h) (Or.inl ⟨by rfl, ?_⟩) hS7 ?_
      rotate_left
      · intro w _
        go_simp
        try (with_reducible rfl)
      simp only [Act.put, List.setIfInBounds_toArray, List.set_cons_zero, List.set_cons_succ]
      refine anyH_take 18 (some 4) (v := ?_) rfl rfl (by kernel_rfl) (by kernel_rfl) (by kernel_rfl) (fun _ _ _ h => h) (Or.inl ⟨by rfl, ?_⟩) hS7 ?_
      rotate_left
      · intro w _
        go_simp
        try (with_reducible rfl)
      simp only [Act.put, List.setIfInBounds_toArray, List.set_cons_zero, List.set_cons_succ]
      refine wpAnyH_done (by kernel_rfl) ?_ _
      go_wp2_with fail
      go_ret
      exact ⟨rfl, grown_trans (grown_trans hG6 (grown_drew W6 none)) hg7⟩
end Go.Proofs.Yteicjpjniaohhaa
