/- JournalSpoilt: the walk. -/
import Derived.Test.YteicjpjniaohhaaROpen
import Derived.Test.YteicjpjniaohhaaAgain
set_option linter.unusedVariables false
set_option linter.unusedSimpArgs false
namespace Scv
open Go Go.RowKit
theorem StrsAt.of_row {w : World} {base : Nat} {e : TypeId} {v : Value} {ls : List (List UInt8)} (h : Row w base e v (ls.map vs)) : StrsAt w v ls := by
  rcases h with ⟨rfl, he⟩ | ⟨g, cap, cur, fr, rfl, h1, h2, h3, h4, h5, h6, h7⟩
  · have : ls = [] := by simpa using he
    subst this
    exact ⟨none, 0, rfl, .inl rfl⟩
  · rw [List.length_map] at h4 h7 ⊢
    refine ⟨_, cap, rfl, .inr ⟨g, 0, rfl, fun i hi => ?_⟩⟩
    have e1 : cur[i]? = some (vs ls[i]) := by
      have : (cur.toList.take ls.length)[i]? = (ls.map vs)[i]? := by rw [h7]
      rw [List.getElem?_take, if_pos hi] at this
      simpa [List.getElem?_eq_getElem hi] using this
    rw [Nat.zero_add]
    simp [World.cell?, h2, e1, List.getD_eq_getElem?_getD, List.getElem?_eq_getElem hi]
theorem opened_some {d : Disk} {s : Jour} (h : (opened d).1 = some s) : (opened d).2.2 = 0 ∧ s.last.length = 32 ∧ (∀ r ∈ s.records, r.length < 16777216) ∧ s.records.length ≤ d.bytes.length := by
  unfold opened at h ⊢
  cases hs : scanA d.bytes zero32 with
  | none => rw [hs] at h; cases h
  | some x =>
    obtain ⟨rs, l, n⟩ := x
    obtain ⟨h1, h2, h3, h4⟩ := scanA_length d.bytes.length _ _ _ _ _ (Nat.le_refl _) rfl hs
    rw [hs] at h
    simp only [] at h ⊢
    split at h
    · split at h
      · cases h
      · rename_i hn hc
        cases h
        rw [if_pos hn, if_neg hc]
        exact ⟨rfl, h2, h4, by show rs.length ≤ _; omega⟩
    · rename_i hn
      cases h
      rw [if_neg hn]
      exact ⟨rfl, h2, h4, by show rs.length ≤ _; omega⟩
theorem opened_none {d : Disk} (h : (opened d).1 = none) : (opened d).2.2 ≠ 0 := by
  unfold opened at h ⊢
  cases hs : scanA d.bytes zero32 with
  | none => simp
  | some x =>
    obtain ⟨rs, l, n⟩ := x
    rw [hs] at h
    simp only [] at h ⊢
    split at h
    · split at h
      · rename_i hn hc
        rw [if_pos hn, if_pos hc]; exact hc
      · cases h
    · cases h
/-- another byte at a place, if there is one -/
def Disk.spoilt (d : Disk) (at' : Int) (x : UInt8) : Disk := if at' < 0 ∨ (d.bytes.length : Int) ≤ at' then d else d.spoil at'.toNat x
end Scv
namespace Go.Proofs.Yteicjpjniaohhaa
open Go.RowKit Go.Shelf Scv
theorem spoil_lone {w0 : World} (g : Nat) (v : Value) (d : Disk) (k : Int) (x : UInt8) (w : World) (h : Try.Lone w0 w g v d) :
    Calls Try.prog 28 #[.pointer (some ⟨g, 0, none⟩), .int .i64 k, .int .u8 (x.toNat : Int)] w fun e w' => ∃ c : Int, e = .returned (.int .i64 c) ∧ Try.Lone w0 w' g v (d.spoilt k x) ∧ Near g v w w' := by
  by_cases hk : k < 0 ∨ (d.bytes.length : Int) ≤ k
  · refine (sspoil_no g v d k x w h.slab hk).mono ?_
    rintro e w' ⟨rfl, rfl⟩
    have : d.spoilt k x = d := if_pos hk
    rw [this]
    exact ⟨_, rfl, h, Same.refl _ _⟩
  · obtain ⟨n, rfl⟩ : ∃ n : Nat, k = n := ⟨k.toNat, by omega⟩
    refine (sspoil_yes g v d n x w h.slab (by omega)).mono ?_
    rintro e w' ⟨rfl, h1, h2, h3⟩
    have : d.spoilt (n : Int) x = d.spoil n x := by unfold Disk.spoilt; rw [if_neg hk, Int.toNat_natCast]
    rw [this]
    refine ⟨_, rfl, ⟨h1, Same.grown h.grown h2 (fun j hj => ?_), h.new⟩, h2⟩
    exact ⟨fun e => by have := h.new j (.inl e); omega, fun e => by have := h.new j (.inr e); omega⟩
set_option maxRecDepth 100000 in
set_option maxHeartbeats 4000000 in
theorem spoilt_calls (x : Value) (vs : List Value) (ls : List (List UInt8)) (at' : Int) (xb : UInt8) (w : World) (hread : ListsAt w x vs ls) :
    Calls Try.prog 7 #[x, .int .i64 at', .int .u8 (xb.toNat : Int)] w fun e w' => e = .returned (.bool true) ∧ w.grownBy w' none := by
  obtain ⟨ad, cap, hv, hcs, hbs⟩ := id hread
  subst hv
  obtain ⟨n, hn⟩ : ∃ n, n = ls.length := ⟨_, rfl⟩
  rw [← hn] at hcs hbs
  have HN := Lib.hid hn
  rw [← hn]
  clear hn hread
  go_enter Try.func7, Try.ntmps7
  go_wp2_with fail
  refine (writes_calls w).mono ?_
  rintro e0 W0 ⟨rfl, hg0⟩
  by_cases hlen : 8 < n
  · have hlen' : (8 : Int) < n := by omega
    go_wp2_with fail
    go_ret
    exact ⟨rfl, hg0⟩
  have hlen' : ¬ (8 : Int) < n := by omega
  have hlenB : (n : Int) ≤ 8 := by omega
  go_wp2_with fail
  refine (snew_live w 100000 (by omega) W0 hg0).mono ?_
  rintro e1 W1 ⟨g, rfl, -, hL1, -⟩
  go_wp2_with fail
  refine (jopen_full g _ 100000 [] W1 hL1 (by simp)).mono ?_
  rintro e2 W2 ⟨j, rv, es, v2, rfl, hL2, -, -⟩
  clear hL1 hg0
  go_wp2_with fail
  go_loopw [41] (fun s41 wr => ∃ (k : Nat) (v rv : Value) (es : List Value), k ≤ n ∧ s41 = .int .i64 k ∧ Try.Live w wr g v (full 100000 (ls.take k)) j rv es (jfull (ls.take k)) ∧ ∀ d ∈ ls.take k, d.length ≤ 200) (fun i _ => n - (intOf i).toNat)
  case atStart => exact ⟨0, _, _, _, by omega, rfl, hL2, by simp⟩
  case round =>
    clear hL2
    obtain ⟨k, v, rv, es, hk, rfl, hL, hle⟩ := hrel
    by_cases hkn : k < n
    · have hki : (k : Int) < n := by omega
      obtain ⟨b, o, rfl, hcells⟩ := hcs.resolve_left (fun e => by have := HN.out; rw [e] at this; simp at this; omega)
      have ck := cell_grown hL.lone.grown _ _ (hcells k hkn)
      have hbk := hbs k hkn
      obtain ⟨e, he⟩ : ∃ e, e = vs.getD k undef := ⟨_, rfl⟩
      obtain ⟨d, hd⟩ : ∃ d, d = ls.getD k [] := ⟨_, rfl⟩
      rw [← he, ← hd] at hbk
      rw [← he] at ck
      obtain ⟨ds, hds⟩ : ∃ ds, ds = ls.take k := ⟨_, rfl⟩
      have hsucc : ls.take (k + 1) = ds ++ [d] := by rw [hd, hds]; exact take_snoc' ls k (by have := HN.out; omega)
      have hold : d ≠ [] → ∀ q, e.ownBlock = some q → q < w.heap.size := fun hd q hq => by obtain ⟨q', hq', hlt⟩ := hbk.block hd; rw [hq] at hq'; cases hq'; exact hlt
      obtain ⟨ade, cape, hev, _⟩ := id hbk
      obtain ⟨m, hm⟩ : ∃ m, m = d.length := ⟨_, rfl⟩
      rw [← hm] at hev
      subst hev
      have hlk : ds.length = k := by rw [hds, List.length_take, ← HN.out]; omega
      rw [← hds] at hL hle
      have hbW := hbk.grown0 hL.lone.grown
      have HX := Lib.hid (And.intro hsucc (And.intro hold (And.intro hm (And.intro hlk hle))))
      clear he hd hsucc hold hm hlk hle hds hbk
      by_cases h200 : 200 < m
      · have h200i : (200 : Int) < m := by omega
        have hG := hL.lone.grown
        go_wp2_with fail
        go_ret
        exact ⟨rfl, hG⟩
      have h200i : ¬ (200 : Int) < m := by omega
      have hmI : (m : Int) ≤ 200 := by omega
      have HL := Lib.hid (And.intro hL hbW)
      clear hL hbW
      go_wp2_with fail
      refine (jwrite_full g v 100000 ds j rv es _ d wr HL.out.1 HL.out.2 (fun hd q hq => HL.out.1.old (x := .slice ade m cape) (fun q hq => HX.out.2.1 hd q hq) q hq) (by have := HX.out.2.2.2.1; omega) (by have := HX.out.2.2.1; omega) ?_).mono ?_
      · have h1 := total_le ds 200 HX.out.2.2.2.2
        rw [HX.out.2.2.2.1] at h1
        have h2 : k * (35 + 200) ≤ 8 * (35 + 200) := Nat.mul_le_mul_right _ (by omega)
        have := HX.out.2.2.1
        omega
      rintro e6 W6 ⟨rfl, v6, rv6, es6, hL6, -, -⟩
      have HL6 := Lib.hid hL6
      clear hL6 HL ck
      go_wp2_with fail
      go_roundw
      case rel =>
        refine ⟨k + 1, v6, rv6, es6, by omega, by go_num, ?_, ?_⟩
        · rw [HX.out.1]; exact HL6.out
        · rw [HX.out.1]
          intro x hx
          rcases List.mem_append.1 hx with hx | hx
          · exact HX.out.2.2.2.2 x hx
          · rw [List.mem_singleton.1 hx, ← HX.out.2.2.1]; omega
      case measure => simp [intOf]; omega
    · obtain rfl : k = n := by omega
      have hlone := hL.lone
      obtain ⟨D, hD⟩ : ∃ D, D = (full 100000 (ls.take k)).spoilt at' xb := ⟨_, rfl⟩
      have hDD : D = ⟨100000, D.bytes, D.bytes.length, -1⟩ := by
        rw [hD]; unfold Disk.spoilt
        split
        · simp [full, recsB_length]
        · simp [full, Disk.spoil, recsB_length]
      go_wp2_with fail
      refine (spoil_lone g v _ at' xb wr hlone).mono ?_
      rintro _ W3 ⟨c, rfl, hL3, -⟩
      rw [← hD] at hL3
      have HD := Lib.hid (And.intro hD hDD)
      clear hL hlone hle hD hDD
      go_wp2_with fail
      refine (sbytes_calls g v D W3 hL3.slab).mono ?_
      rintro _ W4 ⟨u, rfl, hru, hg4⟩
      have hrun := run_bstr (P := Try.prog) hru.bytes Try.ubytes Try.uu8 Try.ustr
      have hL4 := hL3.step hg4
      have HT2 := Lib.hid (show D.bytes.length ≤ 4194304 from Nat.le_trans hL3.slab.ok.fits hL3.slab.ok.room)
      clear hru hL3 hg4
      obtain ⟨txt, htxt⟩ : ∃ t, t = D.bytes := ⟨_, rfl⟩
      rw [← htxt] at hrun
      have HT := Lib.hid htxt
      clear htxt
      go_wp2_with ((with_reducible refine law_build [(0, .int .i64 100000), (1, .int .i64 (txt.length : Int)), (2, .int .i64 (-1)), (3, Scv.vs txt)] (dcells ⟨100000, txt, txt.length, -1⟩) ?_ ?_ ?_); rfl; kernel_rfl)
      refine (ropen_calls ⟨100000, txt, txt.length, -1⟩ W4 (by rw [HT.out, ← HD.out.2]; exact hL4.slab.ok)).mono ?_
      rintro _ W5 ⟨hg5, rvw, hrow5, rfl⟩
      rw [HT.out, ← HD.out.2] at hrow5
      rw [HT.out, ← HD.out.2]
      have hL5 := hL4.step hg5
      obtain ⟨S, hS⟩ : ∃ S, S = jr (opened D) := ⟨_, rfl⟩
      obtain ⟨code, hcode⟩ : ∃ c, c = (opened D).2.2 := ⟨_, rfl⟩
      obtain ⟨D2, hD2⟩ : ∃ d, d = (opened D).2.1 := ⟨_, rfl⟩
      rw [← hS] at hrow5
      rw [← hS, ← hcode, ← hD2]
      have hSl : S.last.length = 32 := by
        rw [hS]; unfold jr
        cases ho : (opened D).1 with
        | none => rfl
        | some s => exact (opened_some ho).2.1
      have HS := Lib.hid (And.intro hS (And.intro hcode (And.intro hD2 hSl)))
      have hg4l : g < W4.heap.size := hL4.slab.blk.lt
      clear hS hcode hD2 hSl hrun hL4 hg5
      go_wp2_with (with_reducible refine law_alloc _ Try.zrjour ?_)
      intro W6 hb6 hg6 hz6
      obtain ⟨g14, hg14⟩ : ∃ g, g = W5.heap.size := ⟨_, rfl⟩
      rw [← hg14] at hb6
      rw [← hg14]
      replace hb6 : Blk W6 g14 (rjcells ⟨0, [], 0, 0⟩ (.slice none 0 0) ⟨[], zero32, false⟩) 52 := hb6
      go_wp2_with ((with_reducible refine law_storew g14 (rjcells D2 rvw S) _ _ ?_ ?_ hb6 ?_ ?_ ?_ ?_); rfl; rfl; (rw [rjcells_size _ _ _ HS.out.2.2.2, rjcells_size _ _ _ rfl]); exact rjcells_one _ _ _ hrow5.one; (rw [rjcells_size _ _ _ HS.out.2.2.2]; exact Try.srjour))
      intro W7 hb7 hg7 hz7
      have hg57 : W5.grownBy W7 none := grown_new hg6 hg7 (by rintro _ ⟨⟩; rw [hg14]; exact Nat.le_refl _)
      have hL7 := hL5.step hg57
      have hrow7 := hrow5.grown hg57 (.inl rfl)
      have hrl : ∀ q, rvw.ownBlock = some q → q ≠ g := fun q hq => by have := (hrow5.lt q hq).1; omega
      have hgg : g14 ≠ g := by have := hL5.slab.blk.lt; omega
      have HR := Lib.hid (And.intro hb7 (And.intro hrow7 (And.intro hrl hgg)))
      clear hb6 hg6 hz6 hb7 hg7 hz7 hg57 hrow5 hrow7 hrl hgg hg14 hL5 hg4l
      go_wp2_with fail
      refine (jopen_live g v D W7 hL7).mono ?_
      rintro e8 W8 ⟨v8, hL8, hs8, hv8, hcase⟩
      have hb8 := hs8.blk HR.out.1 HR.out.2.2.2
      have hrow8 := HR.out.2.1.same hs8 HR.out.2.2.1
      clear hs8 hv8 HR hL7
      rcases hcase with ⟨s, hs, hc0, j8, rv8, es8, rfl, hl8, -⟩ | ⟨hno, rfl⟩
      · obtain ⟨_, _, hrecs, hcnt⟩ := opened_some hs
        have hcode0 : code = 0 := by rw [HS.out.2.1]; exact hc0
        have hSs : S = s := by rw [HS.out.1]; unfold jr; rw [hs]; rfl
        subst hcode0
        subst hSs
        have hcl : S.records.length < 4294967296 := by have := HT2.out; omega
        obtain ⟨N, hN⟩ : ∃ N, N = S.records.length := ⟨_, rfl⟩
        rw [← hN] at hcl
        obtain ⟨adw, nw, capw, hw⟩ := hrow8.shape
        subst hw
        obtain rfl : N = nw := by have := hrow8.len.1; rw [List.length_map] at this; omega
        have HW := Lib.hid (And.intro hrecs (And.intro hN HS.out.2.2.2))
        have H8 := Lib.hid (And.intro hl8 (And.intro hb8 hrow8))
        have hG8 := hL8.grown
        clear hs hc0 hrecs hcnt hN hl8 hb8 hrow8 hL8
        go_wp2_with fail
        go_loopw [18] (fun s18 wr => ∃ i : Nat, i ≤ N ∧ s18 = .int .i64 (i : Int) ∧ W8.grownBy wr none) (fun i _ => N - (intOf i).toNat)
        case atStart => exact ⟨0, by omega, by rfl, grown_refl W8 _⟩
        case round =>
          obtain ⟨i, hi, rfl, hG⟩ := hrel
          have HL := Lib.hid (H8.out.1.step hG)
          have hblk := H8.out.2.1.kept hG (by simp)
          have hrow := H8.out.2.2.grown hG (.inl rfl)
          have HG := Lib.hid hG
          clear hG
          by_cases hiN : i < N
          · have hii : (i : Int) < N := by omega
            have hsa := StrsAt.of_row hrow
            have HB := Lib.hid (And.intro hblk hrow)
            clear hblk hrow
            obtain ⟨aw, cw, hvw, hcw⟩ := hsa
            obtain ⟨bw, ow, haw, hcellw⟩ := hcw.resolve_left (fun e => by have := HW.out.2.1; rw [e] at this; simp at this; omega)
            subst haw
            obtain rfl : adw = some ⟨bw, ow, none⟩ := by cases hvw; rfl
            have hcw := hcellw i (by rw [← HW.out.2.1]; exact hiN)
            obtain ⟨r, hr⟩ : ∃ r, r = S.records.getD i [] := ⟨_, rfl⟩
            rw [← hr] at hcw
            have hrl : r.length < 16777216 := HW.out.1 r (by rw [hr, List.getD_eq_getElem?_getD, List.getElem?_eq_getElem (by rw [← HW.out.2.1]; exact hiN)]; exact List.getElem_mem _)
            have HRR := Lib.hid hr
            have HCW := Lib.hid hcw
            clear hvw hcellw hr hcw
            go_wp2_with fail
            refine (jlen_calls j8 g rv8 es8 S wr HL.out.jour).mono ?_
            rintro _ _ ⟨rfl, rfl⟩
            rw [← HW.out.2.1]
            go_wp2_with fail
            refine (jat_calls j8 g rv8 es8 S i wr HL.out.jour (by rw [← HW.out.2.1]; exact hiN) (by rw [← HRR.out]; omega)).mono ?_
            rintro _ W9 ⟨u, rfl, hru, hg9⟩
            rw [← HRR.out] at hru
            have hbu := hru.bytes
            obtain ⟨adu, nu, capu, hu⟩ := hru.shape
            subst hu
            have c4 : wr.cell? ⟨g14, 4, none⟩ = some (.slice (some ⟨bw, ow, none⟩) N capw) := by rw [HB.out.1.cell]; exact rjcells_rv _ _ _
            have hS0 : W9.drew.cell? ⟨g14, 4, none⟩ = some (.slice (some ⟨bw, ow, none⟩) N capw) ∧ W9.drew.cell? ⟨bw, ow + i, none⟩ = some (Scv.vs r) ∧ BytesAt W9.drew (.slice adu nu capu) r :=
              ⟨cell_grown hg9 _ _ c4, cell_grown hg9 _ _ HCW.out, hbu.grown0 (grown_drew W9 none)⟩
            have HG9 := Lib.hid (grown_trans HG.out hg9)
            clear hru hbu hg9 c4
            have hnN : ¬ N ≤ i := by omega
            go_wp2_with fail
            refine wp_region_held_drew (S := fun w' : World => w'.cell? ⟨g14, 4, none⟩ = some (.slice (some ⟨bw, ow, none⟩) N capw) ∧ w'.cell? ⟨bw, ow + i, none⟩ = some (Scv.vs r) ∧ BytesAt w' (.slice adu nu capu) r) (by kernel_rfl) hS0 (fun _ => ?_)
            refine anyH_take 0 (some 97) (v := ?_) rfl rfl (by kernel_rfl) (by kernel_rfl) (by kernel_rfl) (fun _ _ _ h => h) (Or.inl ⟨by rfl, ?_⟩) hS0 ?_
            rotate_left
            · intro w _
              go_simp
              try (with_reducible rfl)
            simp only [Act.put, List.setIfInBounds_toArray, List.set_cons_zero, List.set_cons_succ]
            refine anyH_take 1 (some 98) (v := ?_) rfl rfl (by kernel_rfl) (by kernel_rfl) (by kernel_rfl) (fun _ _ _ h => h) (Or.inl ⟨by rfl, ?_⟩) hS0 ?_
            rotate_left
            · intro w _
              go_simp
              try (with_reducible rfl)
            simp only [Act.put, List.setIfInBounds_toArray, List.set_cons_zero, List.set_cons_succ]
            refine anyH_take 2 (some 99) (v := ?_) rfl rfl (by kernel_rfl) (by kernel_rfl) (by kernel_rfl) (fun _ _ _ h => h) (Or.inl ⟨by rfl, ?_⟩) hS0 ?_
            rotate_left
            · intro w _
              go_simp
              try (with_reducible rfl)
            simp only [Act.put, List.setIfInBounds_toArray, List.set_cons_zero, List.set_cons_succ]
            refine anyH_take 3 (some 100) (v := ?_) rfl rfl (by kernel_rfl) (by kernel_rfl) (by kernel_rfl) (fun _ _ _ h => h) (Or.inl ⟨by rfl, ?_⟩) hS0 ?_
            rotate_left
            · intro w _
              go_simp
              try (with_reducible rfl)
            simp only [Act.put, List.setIfInBounds_toArray, List.set_cons_zero, List.set_cons_succ]
            refine anyH_take 4 (some 101) (v := ?_) rfl rfl (by kernel_rfl) (by kernel_rfl) (by kernel_rfl) (fun _ _ _ h => h) (Or.inl ⟨by rfl, ?_⟩) hS0 ?_
            rotate_left
            · intro w _
              go_simp
              try (with_reducible rfl)
            simp only [Act.put, List.setIfInBounds_toArray, List.set_cons_zero, List.set_cons_succ]
            refine anyH_take 5 (some 102) rfl rfl (by kernel_rfl) (by kernel_rfl) (by kernel_rfl) (fun _ _ _ h => h) (yieldsIf_load1 rfl rfl ⟨g14, 4, none⟩ (.slice (some ⟨bw, ow, none⟩) N capw) _ rfl (fun _ h => h.1) Try.ustrs rfl) hS0 ?_
            simp only [Act.put, List.setIfInBounds_toArray, List.set_cons_zero, List.set_cons_succ]
            refine anyH_take 6 (some 103) (v := ?_) rfl rfl (by kernel_rfl) (by kernel_rfl) (by kernel_rfl) (fun _ _ _ h => h) (Or.inl ⟨by rfl, ?_⟩) hS0 ?_
            rotate_left
            · intro w _
              go_simp
              try (with_reducible rfl)
            simp only [Act.put, List.setIfInBounds_toArray, List.set_cons_zero, List.set_cons_succ]
            refine anyH_take 7 (some 104) (v := ?_) rfl rfl (by kernel_rfl) (by kernel_rfl) (by kernel_rfl) (fun _ _ _ h => h) (Or.inl ⟨by rfl, ?_⟩) hS0 ?_
            rotate_left
            · intro w _
              go_simp
              try (with_reducible rfl)
            simp only [Act.put, List.setIfInBounds_toArray, List.set_cons_zero, List.set_cons_succ]
            refine anyH_take 8 (some 105) (v := ?_) rfl rfl (by kernel_rfl) (by kernel_rfl) (by kernel_rfl) (fun _ _ _ h => h) (Or.inl ⟨by rfl, ?_⟩) hS0 ?_
            rotate_left
            · intro w _
              go_simp
              try (with_reducible rfl)
            simp only [Act.put, List.setIfInBounds_toArray, List.set_cons_zero, List.set_cons_succ]
            refine anyH_take 9 (some 106) (v := ?_) rfl rfl (by kernel_rfl) (by kernel_rfl) (by kernel_rfl) (fun _ _ _ h => h) (Or.inl ⟨by rfl, ?_⟩) hS0 ?_
            rotate_left
            · intro w _
              go_simp
              try (with_reducible rfl)
            simp only [Act.put, List.setIfInBounds_toArray, List.set_cons_zero, List.set_cons_succ]
            refine anyH_take 10 (some 107) (v := ?_) rfl rfl (by kernel_rfl) (by kernel_rfl) (by kernel_rfl) (fun _ _ _ h => h) (Or.inl ⟨by rfl, ?_⟩) hS0 ?_
            rotate_left
            · intro w _
              go_simp
              try (with_reducible rfl)
            simp only [Act.put, List.setIfInBounds_toArray, List.set_cons_zero, List.set_cons_succ]
            refine anyH_take 11 (some 108) rfl rfl (by kernel_rfl) (by kernel_rfl) (by kernel_rfl) (fun _ _ _ h => h) (yieldsIf_bstr rfl rfl (.slice adu nu capu) r 5 rfl (fun _ h => h.2.2) Try.ubytes Try.uu8 Try.ustr) hS0 ?_
            simp only [Act.put, List.setIfInBounds_toArray, List.set_cons_zero, List.set_cons_succ]
            refine anyH_take 12 (some 109) (v := ?_) rfl rfl (by kernel_rfl) (by kernel_rfl) (by kernel_rfl) (fun _ _ _ h => h) (Or.inl ⟨by rfl, ?_⟩) hS0 ?_
            rotate_left
            · intro w _
              go_simp
              try (with_reducible rfl)
            simp only [Act.put, List.setIfInBounds_toArray, List.set_cons_zero, List.set_cons_succ]
            refine anyH_take 13 (some 110) rfl rfl (by kernel_rfl) (by kernel_rfl) (by kernel_rfl) (fun _ _ _ h => h) (yieldsIf_load1 rfl rfl ⟨g14, 4, none⟩ (.slice (some ⟨bw, ow, none⟩) N capw) _ rfl (fun _ h => h.1) Try.ustrs rfl) hS0 ?_
            simp only [Act.put, List.setIfInBounds_toArray, List.set_cons_zero, List.set_cons_succ]
            refine anyH_take 14 (some 111) (v := ?_) rfl rfl (by kernel_rfl) (by kernel_rfl) (by kernel_rfl) (fun _ _ _ h => h) (Or.inl ⟨by rfl, ?_⟩) hS0 ?_
            rotate_left
            · intro w _
              go_simp
              try (with_reducible rfl)
            simp only [Act.put, List.setIfInBounds_toArray, List.set_cons_zero, List.set_cons_succ]
            refine anyH_take 15 (some 112) (v := ?_) rfl rfl (by kernel_rfl) (by kernel_rfl) (by kernel_rfl) (fun _ _ _ h => h) (Or.inl ⟨by rfl, ?_⟩) hS0 ?_
            rotate_left
            · intro w _
              go_simp
              try (with_reducible rfl)
            simp only [Act.put, List.setIfInBounds_toArray, List.set_cons_zero, List.set_cons_succ]
            refine anyH_take 16 (some 113) rfl rfl (by kernel_rfl) (by kernel_rfl) (by kernel_rfl) (fun _ _ _ h => h) (yieldsIf_load1 rfl rfl ⟨bw, ow + i, none⟩ (Scv.vs r) _ rfl (fun _ h => h.2.1) Try.nstr rfl) hS0 ?_
            simp only [Act.put, List.setIfInBounds_toArray, List.set_cons_zero, List.set_cons_succ]
            refine anyH_take 17 (some 114) rfl rfl (by kernel_rfl) (by kernel_rfl) (by kernel_rfl) (fun _ _ _ h => h) (yieldsIf_sneq rfl rfl r r rfl rfl) hS0 ?_
            simp only [Act.put, List.setIfInBounds_toArray, List.set_cons_zero, List.set_cons_succ]
            refine anyH_take 18 (some 115) (v := ?_) rfl rfl (by kernel_rfl) (by kernel_rfl) (by kernel_rfl) (fun _ _ _ h => h) (Or.inl ⟨by rfl, ?_⟩) hS0 ?_
            rotate_left
            · intro w _
              go_simp
              try (with_reducible rfl)
            simp only [Act.put, List.setIfInBounds_toArray, List.set_cons_zero, List.set_cons_succ]
            refine wpAnyH_done (by kernel_rfl) ?_ _

            go_wp2_with fail
            go_roundw
            case rel => exact ⟨i + 1, by omega, by go_num, grown_trans HG9.out (grown_drew W9 none)⟩
            case measure => simp [intOf]; omega
          · obtain rfl : i = N := by omega
            go_wp2_with fail
            refine (jlen_calls j8 g rv8 es8 S wr HL.out.jour).mono ?_
            rintro _ _ ⟨rfl, rfl⟩
            rw [← HW.out.2.1]
            have c4 : wr.drew.cell? ⟨g14, 4, none⟩ = some (.slice adw i capw) := by
              show wr.cell? _ = _
              rw [hblk.cell]; exact rjcells_rv _ _ _
            have HC4 := Lib.hid c4
            have hG' := grown_trans hG8 HG.out
            clear c4 hblk hrow
            go_wp2_with fail
            refine wp_region_held_drew (S := fun w' : World => w'.cell? ⟨g14, 4, none⟩ = some (.slice adw i capw)) (by kernel_rfl) HC4.out (fun _ => ?_)
            refine anyH_take 0 (some 116) (v := ?_) rfl rfl (by kernel_rfl) (by kernel_rfl) (by kernel_rfl) (fun _ _ _ h => h) (Or.inl ⟨by rfl, ?_⟩) HC4.out ?_
            rotate_left
            · intro w _
              go_simp
              try (with_reducible rfl)
            simp only [Act.put, List.setIfInBounds_toArray, List.set_cons_zero, List.set_cons_succ]
            refine anyH_take 2 (some 118) (v := ?_) rfl rfl (by kernel_rfl) (by kernel_rfl) (by kernel_rfl) (fun _ _ _ h => h) (Or.inl ⟨by rfl, ?_⟩) HC4.out ?_
            rotate_left
            · intro w _
              go_simp
              try (with_reducible rfl)
            simp only [Act.put, List.setIfInBounds_toArray, List.set_cons_zero, List.set_cons_succ]
            refine anyH_take 3 (some 119) rfl rfl (by kernel_rfl) (by kernel_rfl) (by kernel_rfl) (fun _ _ _ h => h) (yieldsIf_load1 rfl rfl ⟨g14, 4, none⟩ (.slice adw i capw) _ rfl (fun _ h => h) Try.ustrs rfl) HC4.out ?_
            simp only [Act.put, List.setIfInBounds_toArray, List.set_cons_zero, List.set_cons_succ]
            refine anyH_take 4 (some 120) (v := ?_) rfl rfl (by kernel_rfl) (by kernel_rfl) (by kernel_rfl) (fun _ _ _ h => h) (Or.inl ⟨by rfl, ?_⟩) HC4.out ?_
            rotate_left
            · intro w _
              go_simp
              try (with_reducible rfl)
            simp only [Act.put, List.setIfInBounds_toArray, List.set_cons_zero, List.set_cons_succ]
            refine wpAnyH_ready (rs := [1]) (by kernel_rfl) (by simp) ?_
            refine AllReadyH.cons rfl (fun K hK => ?_) AllReadyH.nil
            refine gstep_call (some 117) rfl rfl rfl #[.pointer (some ⟨j8, 0, none⟩)] rfl (fun _ => by simp [go_sem]) (jlen_calls j8 g rv8 es8 S _ (HL.out.step (grown_drew wr none)).jour) ?_
            rintro _ _ ⟨rfl, rfl⟩
            rw [← HW.out.2.1]
            refine ⟨_, rfl, ?_⟩
            refine hK.out _ _ HC4.out (fun _ => ?_)
            clear hK K
            simp only [Act.put, List.setIfInBounds_toArray, List.set_cons_zero, List.set_cons_succ]
            refine anyH_take 5 (some 121) (v := ?_) rfl rfl (by kernel_rfl) (by kernel_rfl) (by kernel_rfl) (fun _ _ _ h => h) (Or.inl ⟨by rfl, ?_⟩) HC4.out ?_
            rotate_left
            · intro w _
              go_simp
              try (with_reducible rfl)
            simp only [Act.put, List.setIfInBounds_toArray, List.set_cons_zero, List.set_cons_succ]
            refine anyH_take 6 (some 6) (v := ?_) rfl rfl (by kernel_rfl) (by kernel_rfl) (by kernel_rfl) (fun _ _ _ h => h) (Or.inl ⟨by rfl, ?_⟩) HC4.out ?_
            rotate_left
            · intro w _
              go_simp
              try (with_reducible rfl)
            simp only [Act.put, List.setIfInBounds_toArray, List.set_cons_zero, List.set_cons_succ]
            refine wpAnyH_done (by kernel_rfl) ?_ _

            go_wp2_with fail
            go_ret
            exact ⟨rfl, grown_trans hG' (grown_drew wr none)⟩
      · have hcn : code ≠ 0 := by rw [HS.out.2.1]; exact opened_none hno
        have hG := hL8.grown
        rw [← HS.out.2.1]
        have t1 : (code != 0) = true := by rw [bne_iff_ne]; exact hcn
        go_wp2_with fail
        go_ret
        exact ⟨rfl, hG⟩
end Go.Proofs.Yteicjpjniaohhaa
