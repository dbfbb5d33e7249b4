/- The journal: Open. -/
import Derived.WalkMore
import Derived.Test.YteicjpjniaohhaaSteps
namespace Go.Proofs.Yteicjpjniaohhaa
open Go.RowKit Go.Shelf Scv
/-- what Open leaves -/
def Try.Opened (g : Nat) (v : Value) (w w' : World) (e : Ending) (r : Option Jour × Disk × Int) : Prop :=
  ∃ v', Try.SlabAt w' g v' r.2.1 ∧ Same (fun k => k ≠ g) w w' ∧ v'.ownBlock = v.ownBlock ∧
    match r.1 with
    | none => e = .returned (.tuple #[.pointer none, .int .i64 r.2.2])
    | some s => r.2.2 = 0 ∧ ∃ j rv es, e = .returned (.tuple #[.pointer (some ⟨j, 0, none⟩), .int .i64 0]) ∧ Try.JourAt w' j g rv es s ∧ ∀ k, JFoot j rv es k → w.heap.size ≤ k
/-- what holds at the head of Open's loop: k bytes are read -/
structure Try.OInv (g : Nat) (v : Value) (d : Disk) (b : List UInt8) (u : Value) (j : Nat) (w wr : World) (k : Nat) (rs : List (List UInt8)) (last : List UInt8) (rv : Value) (es : List Value) : Prop where
  le : k ≤ b.length
  jour : Try.JourAt wr j g rv es ⟨rs, last, false⟩
  scan : scanA b zero32 = Scv.ahead rs k (scanA (b.drop k) last)
  grown : w.grownBy wr none
  row : Row wr 0 5 u (b.map vb)
  sep : ∀ q, u.ownBlock = some q → q ≠ j ∧ rv.ownBlock ≠ some q
  new : ∀ q, JFoot j rv es q → w.heap.size ≤ q
  cnt : rs.length ≤ k
theorem Try.OInv.step {g : Nat} {v : Value} {d : Disk} {b : List UInt8} {u : Value} {j : Nat} {w wr W : World} {k : Nat} {rs : List (List UInt8)} {last : List UInt8} {rv : Value} {es : List Value} (h : Try.OInv g v d b u j w wr k rs last rv es) (hg : wr.grownBy W none) : Try.OInv g v d b u j w W k rs last rv es :=
  ⟨h.le, h.jour.same (R := fun _ => True) (Same.of_grown hg (fun _ _ => by simp)) (fun _ _ => trivial), h.scan, grown_trans h.grown hg, h.row.grown hg (.inl rfl), h.sep, h.new, h.cnt⟩
theorem Try.OInv.slab {g : Nat} {v : Value} {d : Disk} {b : List UInt8} {u : Value} {j : Nat} {w wr : World} {k : Nat} {rs : List (List UInt8)} {last : List UInt8} {rv : Value} {es : List Value} (h : Try.OInv g v d b u j w wr k rs last rv es) (hs : Try.SlabAt w g v d) : Try.SlabAt wr g v d :=
  hs.same (R := fun _ => True) (Same.of_grown h.grown (fun _ _ => by simp)) (fun _ _ => trivial)
/-- a record more is read -/
theorem Try.OInv.more {g : Nat} {v : Value} {d : Disk} {b : List UInt8} {u0 : Value} {j : Nat} {w W : World} {k : Nat} {rs : List (List UInt8)} {last : List UInt8} {rv : Value} {es : List Value} (h : Try.OInv g v d b u0 j w W k rs last rv es) (hs : Try.SlabAt w g v d)
    {data : List UInt8} (hrd : rd1 last (b.drop k) = .next data) {Y1 Z Y2 Y4 : World} {u v5 : Value} (gY1 : W.grownBy Y1 none) (hru : Row Y1 W.heap.size 5 u (data.map vb)) (gA : Y1.grownBy Z none) (hr5 : Row Y2 0 30 v5 (es ++ [u]))
    (hg5 : Z.grownBy Y2 rv.ownBlock) (hn5 : ∀ k, v5.ownBlock = some k → rv.ownBlock = some k ∨ Z.heap.size ≤ k) (g4 : (Y2.setCell ⟨j, 1, none⟩ v5).grownBy Y4 (some j)) (hb : Blk Y4 j (jcells g v5 ⟨rs ++ [data], lnk last data, false⟩) 78) :
    Try.OInv g v d b u0 j w Y4 (k + (35 + data.length)) (rs ++ [data]) (lnk last data) v5 (es ++ [u]) := by
  have hsl := h.slab hs
  have hfoot : ∀ q, SFoot g v q → q < w.heap.size := fun q hq => hs.lt q hq
  have hsep : ∀ q, SFoot g v q → ¬ JFoot j rv es q := fun q hq hj => by have := hfoot q hq; have := h.new q hj; omega
  have hM : Try.Mid j g v rv es ⟨rs, last, false⟩ W W v d := ⟨hsl, h.jour, Same.refl _ _, fun q hq => .inl hq, hsep, fun q hj hq => hsep q hq hj⟩
  have hW := (hM.more gY1 hru gA hr5 hg5 hn5).put g4 hb rfl (lnk_length _ _)
  have hset := grown_set Y2 j 1 v5
  have hjn := h.new j (.inl rfl)
  have hl := (rd1_next hrd)
  have hsc := h.scan
  rw [scanA_next hrd, ahead_ahead, List.drop_drop] at hsc
  have chain : Same (fun q => q ≠ j ∧ rv.ownBlock ≠ some q) W Y4 :=
    (((Same.of_grown (grown_trans gY1 gA) (fun _ _ => by simp)).trans (Same.of_grown hg5 (fun q hq e => hq.2 e.symm))).trans (Same.of_grown hset (fun q hq e => hq.1 (Option.some.inj e)))).trans (Same.of_grown g4 (fun q hq e => hq.1 (Option.some.inj e)))
  refine ⟨?_, hW.jour, hsc, ?_, h.row.same chain (fun q hq => h.sep q hq), fun q hq => ⟨(h.sep q hq).1, fun e => ?_⟩, fun q hq => ?_, ?_⟩
  · have := hl.2.1; rw [List.length_drop] at this; have := h.le; omega
  · exact grown_new (grown_new (grown_new (grown_trans (grown_trans h.grown gY1) gA) hg5 (fun q hq => h.new q (.inr (.inl hq)))) hset (fun q hq => by cases hq; exact hjn)) g4 (fun q hq => by cases hq; exact hjn)
  · rcases hn5 q e with h' | h'
    · exact (h.sep q hq).2 h'
    · have := (h.row.lt q hq).2; have := gY1.size; have := gA.size; omega
  · rcases hW.jfoot q hq with h' | h'
    · exact h.new q h'
    · have := h.grown.size; omega
  · have := h.cnt; simp; omega
theorem cut_code (d : Disk) (k : Nat) : (d.cut k).2 = 0 ∨ (d.cut k).2 = 90 := by
  unfold Disk.cut; split
  · exact .inr rfl
  · exact .inl rfl
/-- the end: bytes that were cut off are taken away -/
theorem Try.OInv.stop {g : Nat} {v : Value} {d : Disk} {b : List UInt8} {u : Value} {j : Nat} {w wr : World} {k : Nat} {rs : List (List UInt8)} {last : List UInt8} {rv : Value} {es : List Value} (h : Try.OInv g v d b u j w wr k rs last rv es) (hs : Try.SlabAt w g v d)
    (hb : b = d.bytes) (hrd : rd1 last (b.drop k) = .stop) (hk : k < b.length) {W : World} {v' : Value} (hS : Try.SlabAt W g v' (d.cut k).1) (hg : wr.grownBy W (some g)) (hv : v'.ownBlock = v.ownBlock) :
    ((d.cut k).2 = 0 → Try.Opened g v w W (.returned (.tuple #[.pointer (some ⟨j, 0, none⟩), .int .i64 0])) (opened d)) ∧ ((d.cut k).2 = 90 → Try.Opened g v w W (.returned (.tuple #[.pointer none, .int .i64 90])) (opened d)) := by
  have hsc := h.scan
  rw [scanA_stop hrd] at hsc
  simp only [Scv.ahead, List.append_nil, Nat.add_zero] at hsc
  rw [hb] at hsc hk
  have hsame : Same (fun k => k ≠ g) w W := (Same.of_grown h.grown (fun _ _ => by simp)).trans (Same.of_grown hg (fun q hq e => hq (Option.some.inj e)))
  have hgl := hs.blk.lt
  refine ⟨fun hc => ?_, fun hc => ?_⟩
  · have ho : opened d = (some ⟨rs, last, false⟩, (d.cut k).1, 0) := by unfold opened; rw [hsc]; simp only []; rw [if_pos hk, if_neg (by simp [hc])]
    rw [ho]
    refine ⟨v', hS, hsame, hv, rfl, j, rv, es, rfl, h.jour.same (R := fun q => q ≠ g) (Same.of_grown hg (fun q hq e => hq (Option.some.inj e))) (fun q hq e => by have := h.new q hq; omega), h.new⟩
  · have ho : opened d = (none, (d.cut k).1, 90) := by unfold opened; rw [hsc]; simp only []; rw [if_pos hk, if_pos (by simp [hc]), hc]
    rw [ho]
    exact ⟨v', hS, hsame, hv, rfl⟩
/-- the end: all is read -/
theorem Try.OInv.whole {g : Nat} {v : Value} {d : Disk} {b : List UInt8} {u : Value} {j : Nat} {w wr : World} {rs : List (List UInt8)} {last : List UInt8} {rv : Value} {es : List Value} (h : Try.OInv g v d b u j w wr b.length rs last rv es) (hs : Try.SlabAt w g v d)
    (hb : b = d.bytes) : Try.Opened g v w wr (.returned (.tuple #[.pointer (some ⟨j, 0, none⟩), .int .i64 0])) (opened d) := by
  have hsc := h.scan
  have hrd : rd1 last (b.drop b.length) = .stop := by unfold rd1; rw [if_pos (by simp)]
  rw [scanA_stop hrd] at hsc
  simp only [Scv.ahead, List.append_nil, Nat.add_zero] at hsc
  rw [hb] at hsc
  have ho : opened d = (some ⟨rs, last, false⟩, d, 0) := by unfold opened; rw [hsc]; simp only []; rw [if_neg (by omega)]
  rw [ho]
  exact ⟨v, h.slab hs, Same.of_grown h.grown (fun _ _ => by simp), rfl, rfl, j, rv, es, rfl, h.jour, h.new⟩
/-- the end: a record was spoilt -/
theorem Try.OInv.torn {g : Nat} {v : Value} {d : Disk} {b : List UInt8} {u : Value} {j : Nat} {w wr W : World} {k : Nat} {rs : List (List UInt8)} {last : List UInt8} {rv : Value} {es : List Value} (h : Try.OInv g v d b u j w wr k rs last rv es) (hs : Try.SlabAt w g v d)
    (hb : b = d.bytes) (hrd : rd1 last (b.drop k) = .torn) (hg : wr.grownBy W none) : Try.Opened g v w W (.returned (.tuple #[.pointer none, .int .i64 100])) (opened d) := by
  have hsc := h.scan
  rw [scanA_torn hrd, hb] at hsc
  have ho : opened d = (none, d, 100) := by unfold opened; rw [hsc]; rfl
  rw [ho]
  have hG := grown_trans h.grown hg
  exact ⟨v, hs.same (R := fun _ => True) (Same.of_grown hG (fun _ _ => by simp)) (fun _ _ => trivial), Same.of_grown hG (fun _ _ => by simp), rfl, rfl⟩
set_option maxRecDepth 100000 in
set_option maxHeartbeats 4000000 in
set_option linter.unusedSimpArgs false in
set_option pp.deepTerms true in
theorem jopen_calls (g : Nat) (v : Value) (d : Disk) (w : World) (hs : Try.SlabAt w g v d) :
    Calls Try.prog 12 #[.pointer (some ⟨g, 0, none⟩)] w fun e w' => Try.Opened g v w w' e (opened d) := by
  have hfit := hs.ok.fits
  have hroom := hs.ok.room
  have hL : d.bytes.length ≤ 4194304 := by omega
  clear hfit hroom
  obtain ⟨b, hb⟩ : ∃ b, b = d.bytes := ⟨_, rfl⟩
  obtain ⟨L, hLL⟩ : ∃ L, L = b.length := ⟨_, rfl⟩
  rw [← hb, ← hLL] at hL
  have HB := Lib.hid (And.intro hb hLL)
  clear hb hLL
  go_enter Try.func12, Try.ntmps12
  go_wp2_with fail
  go_step3
  go_wp2_with (first | ((with_reducible refine law_build [(0, .pointer (some ⟨g, 0, none⟩))] (jcells g (.slice none 0 0) ⟨[], zero32, false⟩) ?_ ?_ ?_); rfl; kernel_rfl) | (with_reducible refine law_box (.agg (jcells g (.slice none 0 0) ⟨[], zero32, false⟩)) rfl ?_))
  intro W1 hb1 hg1 hz1
  obtain ⟨j, hj⟩ : ∃ g, g = w.heap.size := ⟨_, rfl⟩
  rw [← hj] at hb1 hz1
  rw [← hj]
  replace hb1 : Blk W1 j (jcells g (.slice none 0 0) ⟨[], zero32, false⟩) 78 := hb1
  have hS1 := hs.same (R := fun _ => True) (Same.of_grown hg1 (fun _ _ => by simp)) (fun _ _ => trivial)
  have HZ := Lib.hid (And.intro hj hz1)
  clear hj hz1
  go_wp2_with fail
  refine (sbytes_calls g v d W1 hS1).mono ?_
  rintro e2 W2 ⟨u, rfl, hru, hg2⟩
  rw [← HB.out.1] at hru
  have hG2 := grown_trans hg1 hg2
  have hb2 := hb1.kept hg2 (by simp)
  obtain ⟨adu, nu, capu, hu⟩ := hru.shape
  subst hu
  have hlu := hru.len
  rw [List.length_map, ← HB.out.2] at hlu
  obtain ⟨rfl, hcu, hcm⟩ := hlu
  go_wp2_with fail
  go_step3
  go_wp2_with fail
  have hI0 : Try.OInv g v d b (.slice adu nu capu) j w W2 0 [] zero32 (.slice none 0 0) [] := by
    refine ⟨Nat.zero_le _, ⟨hb2, Row.nil _ _ _, trivial, by simp [zero32], by simp [Value.ownBlock]⟩, ?_, hG2, hru.base, fun q hq => ⟨?_, by simp [Value.ownBlock]⟩, ?_, Nat.le_refl _⟩
    · rw [List.drop_zero]; cases scanA b zero32 with
      | none => rfl
      | some x => obtain ⟨r, l, m⟩ := x; simp [Scv.ahead]
    · have := (hru.lt q hq).1; have := HZ.out.2; omega
    · rintro q (rfl | hq | ⟨e, he, _⟩)
      · rw [HZ.out.1]; exact Nat.le_refl _
      · simp [Value.ownBlock] at hq
      · simp at he
  have HS := Lib.hid hs
  clear hru hb2 hS1 hb1 hg1 hg2 hG2 hs
  go_loopw [6] (fun s6 wr => ∃ (k : Nat) (rs : List (List UInt8)) (last : List UInt8) (rv : Value) (es : List Value), s6 = .int .i64 (k : Int) ∧ Try.OInv g v d b (.slice adu nu capu) j w wr k rs last rv es) (fun s6 _ => nu - (intOf s6).toNat)
  case atStart => exact ⟨0, [], zero32, .slice none 0 0, [], rfl, hI0⟩
  case round =>
    obtain ⟨k, rs, last, rv, es, rfl, hI⟩ := hrel
    clear hI0
    obtain ⟨adr, nr, capr, hrv⟩ := hI.jour.row.shape
    subst hrv
    unfold maxLen at hcm
    have hkn : k ≤ nu := by rw [HB.out.2]; exact hI.le
    by_cases hlt : k < nu
    · obtain ⟨gu, rfl⟩ : ∃ gu, adu = some ⟨gu, 0, none⟩ := by
        rcases hI.row with ⟨hv, he⟩ | ⟨g', cap', cur, fr, hv, _⟩
        · cases hv; omega
        · cases hv; exact ⟨g', rfl⟩
      have hlti : (k : Int) < nu := by omega
      obtain ⟨l, hl⟩ : ∃ l, nu - k = l := ⟨_, rfl⟩
      obtain ⟨c, hc⟩ : ∃ c, capu - k = c := ⟨_, rfl⟩
      have hub : BytesAt wr (.slice (some ⟨gu, k, none⟩) l c) (b.drop k) := by
        have h1 := hI.row.bytes
        have h2 := h1.sub k l c (by rw [← HB.out.2]; omega)
        rw [Nat.zero_add] at h2
        rwa [List.take_of_length_le (by rw [List.length_drop, ← HB.out.2]; omega)] at h2
      have hSw := hI.slab HS.out
      have HI := Lib.hid hI
      by_cases h35 : l < 35
      · have h35i : (l : Int) < 35 := by omega
        have hrd : rd1 last (b.drop k) = .stop := by unfold rd1; rw [if_pos (by rw [List.length_drop, ← HB.out.2]; omega)]
        have HR := Lib.hid hrd
        have HSW := Lib.hid hSw
        clear hrd hI hSw hub
        go_wp2_with fail
        refine (scut_calls g v d k wr HSW.out (by rw [← HB.out.1, ← HB.out.2]; exact hkn)).mono ?_
        rintro e8 W8 ⟨rfl, v8, hS8, hg8, hz8, hv8⟩
        have hfin := HI.out.stop HS.out HB.out.1 HR.out (by rw [← HB.out.2]; exact hlt) hS8 hg8 hv8
        have HF := Lib.hid hfin
        clear hfin hS8 hg8 hz8 hv8
        rcases cut_code d k with hcc | hcc
        · have HC := Lib.hid hcc
          rw [hcc]
          clear hcc
          go_wp2_with fail
          try rw [Exit.noGoto_ret]
          go_ret2
          exact HF.out.1 HC.out
        · have HC := Lib.hid hcc
          rw [hcc]
          clear hcc
          go_wp2_with fail
          try rw [Exit.noGoto_ret]
          go_ret2
          exact HF.out.2 HC.out
      · have h35i : (35 : Int) ≤ l := by omega
        have hcl : l ≤ c := by omega
        have hcb : ∀ i, i < l → wr.cell? ⟨gu, k + i, none⟩ = some (.int .u8 (byt (b.drop k) i : Int)) := by
          intro i hi
          obtain ⟨ad, cap, hv, hc⟩ := hub
          cases hv
          rcases hc with hc | ⟨b', o', ha, hc⟩
          · rw [hc] at hi; simp at hi
          · cases ha; exact hc i hi
        have hb256 : ∀ i, byt (b.drop k) i < 256 := fun i => byt_lt _ i
        have hn24 : n24 (b.drop k) = (byt (b.drop k) 0 * 256 + byt (b.drop k) 1) * 256 + byt (b.drop k) 2 := rfl
        have d0 := hcb 0 (by omega)
        have d1 := hcb 1 (by omega)
        have d2 := hcb 2 (by omega)
        have l0 := hb256 0
        have l1 := hb256 1
        have l2 := hb256 2
        obtain ⟨x0, hx0⟩ : ∃ x, x = byt (b.drop k) 0 := ⟨_, rfl⟩
        obtain ⟨x1, hx1⟩ : ∃ x, x = byt (b.drop k) 1 := ⟨_, rfl⟩
        obtain ⟨x2, hx2⟩ : ∃ x, x = byt (b.drop k) 2 := ⟨_, rfl⟩
        rw [Nat.add_zero, ← hx0] at d0
        rw [← hx1] at d1
        rw [← hx2] at d2
        rw [← hx0] at l0
        rw [← hx1] at l1
        rw [← hx2] at l2
        rw [← hx0, ← hx1, ← hx2] at hn24
        obtain ⟨n, hn⟩ : ∃ n, n = n24 (b.drop k) := ⟨_, rfl⟩
        rw [← hn] at hn24
        have HN := Lib.hid (And.intro hn24 hn)
        have HU := Lib.hid (And.intro hub hSw)
        clear hub hSw hx0 hx1 hx2 hn24 hn hb256 hcb hI
        have c3 : (3 : Int) ≤ c := by omega
        have c19 : (19 : Int) ≤ c := by omega
        have c35 : (35 : Int) ≤ c := by omega
        have n3 : ¬ c = 3 := by omega
        have n19 : ¬ c = 19 := by omega
        have i0 : 0 < l := by omega
        have i1 : (1 : Int) < l := by omega
        have i2 : (2 : Int) < l := by omega
        go_wp2_with fail
        refine wp_region_still_lit (by kernel_rfl) (by kernel_rfl) ?_
        repeat still_step
        refine wpStill_nil ?_
        have hnum := num24_go x0 x1 x2 l0 l1 l2
        rw [← HN.out.1] at hnum
        rw [hnum]
        change Exit.then _ _ _ _ wr.drew
        clear hnum l0 l1 l2 d0 d1 d2
        go_wp2_with fail
        have hll : last.length = 32 := HI.out.jour.len
        have hol : ∃ own, own = forSum [102, 114, 111, 110, 116] [last, (b.drop k).take 3] := ⟨_, rfl⟩
        obtain ⟨own, hown⟩ := hol
        have hol : own.length = 32 := by rw [hown]; exact sha_length _
        have HO := Lib.hid (And.intro hown (And.intro hol hll))
        clear hown hol hll
        go_cut [9] from 18 to 100 (fun s9 wx => ∃ g9 : Nat, s9 = .pointer (some ⟨g9, 0, none⟩) ∧ Blk wx g9 (u8s own) 29 ∧ wr.grownBy wx none)
        case first =>
          have hg0 : wr.grownBy wr.drew.drew none := grown_trans (grown_drew wr none) (grown_drew _ none)
          have h3 : BytesAt wr (.slice (some ⟨gu, k, none⟩) 3 c) ((b.drop k).take 3) := by
            have := HU.out.1.sub 0 3 c (by rw [List.length_drop, ← HB.out.2]; omega)
            rwa [Nat.add_zero, List.drop_zero] at this
          have hd2 : (List.flatMap sized [last, (b.drop k).take 3]).length < 1073741824 := by
            rw [sized2, HO.out.2.2, List.length_take]; omega
          refine wp_region_any (by kernel_rfl) ?_
          change wpAny _ _ _ _ _ _ _ (World.drew _)
          refine any_take 0 (some 44) (v := ?_) rfl rfl (by kernel_rfl) (by kernel_rfl) (by kernel_rfl) (fun _ _ _ h => h) (Or.inl ⟨by rfl, ?_⟩) ?_
          rotate_left
          · intro w
            go_simp
            try (with_reducible rfl)
          simp only [Act.put, List.setIfInBounds_toArray, List.set_cons_zero, List.set_cons_succ]
          refine any_take 1 (some 45) (v := ?_) rfl rfl (by kernel_rfl) (by kernel_rfl) (by kernel_rfl) (fun _ _ _ h => h) (Or.inl ⟨by rfl, ?_⟩) ?_
          rotate_left
          · intro w
            go_simp
            try (with_reducible rfl)
          simp only [Act.put, List.setIfInBounds_toArray, List.set_cons_zero, List.set_cons_succ]
          refine any_take 2 (some 46) (v := ?_) rfl rfl (by kernel_rfl) (by kernel_rfl) (by kernel_rfl) (fun _ _ _ h => h) (Or.inl ⟨by rfl, ?_⟩) ?_
          rotate_left
          · intro w
            go_simp
            try (with_reducible rfl)
          simp only [Act.put, List.setIfInBounds_toArray, List.set_cons_zero, List.set_cons_succ]
          refine any_take 3 (some 47) (v := ?_) rfl rfl (by kernel_rfl) (by kernel_rfl) (by kernel_rfl) (fun _ _ _ h => h) (Or.inl ⟨by rfl, ?_⟩) ?_
          rotate_left
          · intro w
            go_simp
            try (with_reducible rfl)
          simp only [Act.put, List.setIfInBounds_toArray, List.set_cons_zero, List.set_cons_succ]
          refine any_take 4 (some 48) (v := ?_) rfl rfl (by kernel_rfl) (by kernel_rfl) (by kernel_rfl) (fun _ _ _ h => h) (Or.inl ⟨by rfl, ?_⟩) ?_
          rotate_left
          · intro w
            go_simp
            try (with_reducible rfl)
          simp only [Act.put, List.setIfInBounds_toArray, List.set_cons_zero, List.set_cons_succ]
          refine any_take 5 (some 49) (v := ?_) rfl rfl (by kernel_rfl) (by kernel_rfl) (by kernel_rfl) (fun _ _ _ h => h) (Or.inl ⟨by rfl, ?_⟩) ?_
          rotate_left
          · intro w
            go_simp
            try (with_reducible rfl)
          simp only [Act.put, List.setIfInBounds_toArray, List.set_cons_zero, List.set_cons_succ]
          refine wpAny_ready (rs := [6, 8]) (by kernel_rfl) (by simp) ?_
          refine AllReady.cons rfl (fun K hK => ?_) (AllReady.cons rfl (fun K hK => ?_) AllReady.nil)
          · refine step_bslice (some 50) rfl rfl rfl 30 [.slice (some ⟨j, 2, none⟩) 32 32, .slice (some ⟨gu, k, none⟩) 3 c] Try.ulists Try.zbytes (by omega) rfl (by omega) (by intro v hv; simp only [List.mem_cons, List.not_mem_nil, or_false] at hv; rcases hv with rfl | rfl <;> rfl) rfl ?_
            intro Wb1 hbb1 hga1 hzb1
            clear hzb1
            have hgg1 := grown_trans hg0 hga1
            have hla1 := ListsAt.two hbb1 ((jour_cells HI.out.jour).2.2.2.grown0 hgg1) (h3.grown0 hgg1)
            refine hK _ _ ?_
            clear hK K
            simp only [Act.put, List.setIfInBounds_toArray, List.set_cons_zero, List.set_cons_succ]
            refine wpAny_ready (rs := [7, 8]) (by kernel_rfl) (by simp) ?_
            refine AllReady.cons rfl (fun K hK => ?_) (AllReady.cons rfl (fun K hK => ?_) AllReady.nil)
            · refine step_call (some 51) rfl rfl rfl #[.string ⟨[102, 114, 111, 110, 116].toArray⟩, .slice (some ⟨wr.drew.drew.heap.size, 0, none⟩) 2 2] rfl (fun _ => by simp [go_sem]) (for_calls [102, 114, 111, 110, 116] _ _ [last, (b.drop k).take 3] _ hla1 (by decide) (by simp) hd2) ?_
              rintro e7 Wc2 ⟨rfl, hga2⟩
              refine ⟨_, rfl, ?_⟩
              rw [← HO.out.1]
              have hgg2 := grown_trans hgg1 hga2
              refine hK _ _ ?_
              clear hK K
              simp only [Act.put, List.setIfInBounds_toArray, List.set_cons_zero, List.set_cons_succ]
              refine wpAny_ready (rs := [8]) (by kernel_rfl) (by simp) ?_
              refine AllReady.cons rfl (fun K hK => ?_) AllReady.nil
              refine step_alloc (some 9) rfl rfl rfl _ Try.zid ?_
              intro Wd3 hbz3 hga3 hzd3
              clear hzd3
              have h93 := Nat.le_trans hgg2.size (Nat.le_refl _)
              replace hbz3 : Blk Wd3 _ (u8s (List.replicate 32 0)) 29 := hbz3
              have hgg3 := grown_trans hgg2 hga3
              refine hK _ _ ?_
              clear hK K
              simp only [Act.put, List.setIfInBounds_toArray, List.set_cons_zero, List.set_cons_succ]
              refine wpAny_ready (rs := [9]) (by kernel_rfl) (by simp) ?_
              refine AllReady.cons rfl (fun K hK => ?_) AllReady.nil
              refine step_store none rfl rfl rfl Wc2.heap.size 0 (own.map vb) _ _ rfl rfl hbz3 (by rw [u8s_size, List.length_map, HO.out.2.1, List.length_replicate]; omega) (by intro v hv; obtain ⟨b, _, rfl⟩ := List.mem_map.1 hv; rfl) (by rw [Try.sid, List.length_map, HO.out.2.1]) ?_
              intro We4 hbe4 hge4 hze4
              clear hze4
              rw [lay_whole _ _ (by rw [u8s_size, List.length_map, HO.out.2.1, List.length_replicate])] at hbe4
              have hgf4 := grown_new hgg3 hge4 (fun q hq => by cases hq; exact h93)
              refine hK _ _ ?_
              clear hK K
              simp only [Act.put, List.setIfInBounds_toArray, List.set_cons_zero, List.set_cons_succ]
              refine wpAny_done (by kernel_rfl) ?_ _
              go_wp2_with fail
              go_meet
              exact ⟨_, rfl, hbe4, hgf4⟩
            · refine step_alloc (some 9) rfl rfl rfl _ Try.zid ?_
              intro Wd2 hbz2 hga2 hzd2
              clear hzd2
              have h92 := Nat.le_trans hgg1.size (Nat.le_refl _)
              replace hbz2 : Blk Wd2 _ (u8s (List.replicate 32 0)) 29 := hbz2
              have hgg2 := grown_trans hgg1 hga2
              have hla2 := hla1.mono (cell_grown hga2)
              refine hK _ _ ?_
              clear hK K
              simp only [Act.put, List.setIfInBounds_toArray, List.set_cons_zero, List.set_cons_succ]
              refine wpAny_ready (rs := [7]) (by kernel_rfl) (by simp) ?_
              refine AllReady.cons rfl (fun K hK => ?_) AllReady.nil
              refine step_call (some 51) rfl rfl rfl #[.string ⟨[102, 114, 111, 110, 116].toArray⟩, .slice (some ⟨wr.drew.drew.heap.size, 0, none⟩) 2 2] rfl (fun _ => by simp [go_sem]) (for_calls [102, 114, 111, 110, 116] _ _ [last, (b.drop k).take 3] _ hla2 (by decide) (by simp) hd2) ?_
              rintro e7 Wc3 ⟨rfl, hga3⟩
              refine ⟨_, rfl, ?_⟩
              rw [← HO.out.1]
              have hgg3 := grown_trans hgg2 hga3
              have hn3 := hbz2.kept hga3 (by simp)
              refine hK _ _ ?_
              clear hK K
              simp only [Act.put, List.setIfInBounds_toArray, List.set_cons_zero, List.set_cons_succ]
              refine wpAny_ready (rs := [9]) (by kernel_rfl) (by simp) ?_
              refine AllReady.cons rfl (fun K hK => ?_) AllReady.nil
              refine step_store none rfl rfl rfl Wb1.heap.size 0 (own.map vb) _ _ rfl rfl hn3 (by rw [u8s_size, List.length_map, HO.out.2.1, List.length_replicate]; omega) (by intro v hv; obtain ⟨b, _, rfl⟩ := List.mem_map.1 hv; rfl) (by rw [Try.sid, List.length_map, HO.out.2.1]) ?_
              intro We4 hbe4 hge4 hze4
              clear hze4
              rw [lay_whole _ _ (by rw [u8s_size, List.length_map, HO.out.2.1, List.length_replicate])] at hbe4
              have hgf4 := grown_new hgg3 hge4 (fun q hq => by cases hq; exact h92)
              refine hK _ _ ?_
              clear hK K
              simp only [Act.put, List.setIfInBounds_toArray, List.set_cons_zero, List.set_cons_succ]
              refine wpAny_done (by kernel_rfl) ?_ _
              go_wp2_with fail
              go_meet
              exact ⟨_, rfl, hbe4, hgf4⟩
          · refine step_alloc (some 9) rfl rfl rfl _ Try.zid ?_
            intro Wd1 hbz1 hga1 hzd1
            clear hzd1
            have h91 := Nat.le_trans hg0.size (Nat.le_refl _)
            replace hbz1 : Blk Wd1 _ (u8s (List.replicate 32 0)) 29 := hbz1
            have hgg1 := grown_trans hg0 hga1
            refine hK _ _ ?_
            clear hK K
            simp only [Act.put, List.setIfInBounds_toArray, List.set_cons_zero, List.set_cons_succ]
            refine wpAny_ready (rs := [6]) (by kernel_rfl) (by simp) ?_
            refine AllReady.cons rfl (fun K hK => ?_) AllReady.nil
            refine step_bslice (some 50) rfl rfl rfl 30 [.slice (some ⟨j, 2, none⟩) 32 32, .slice (some ⟨gu, k, none⟩) 3 c] Try.ulists Try.zbytes (by omega) rfl (by omega) (by intro v hv; simp only [List.mem_cons, List.not_mem_nil, or_false] at hv; rcases hv with rfl | rfl <;> rfl) rfl ?_
            intro Wb2 hbb2 hga2 hzb2
            clear hzb2
            have hgg2 := grown_trans hgg1 hga2
            have hla2 := ListsAt.two hbb2 ((jour_cells HI.out.jour).2.2.2.grown0 hgg2) (h3.grown0 hgg2)
            have hn2 := hbz1.kept hga2 (by simp)
            refine hK _ _ ?_
            clear hK K
            simp only [Act.put, List.setIfInBounds_toArray, List.set_cons_zero, List.set_cons_succ]
            refine wpAny_ready (rs := [7]) (by kernel_rfl) (by simp) ?_
            refine AllReady.cons rfl (fun K hK => ?_) AllReady.nil
            refine step_call (some 51) rfl rfl rfl #[.string ⟨[102, 114, 111, 110, 116].toArray⟩, .slice (some ⟨Wd1.heap.size, 0, none⟩) 2 2] rfl (fun _ => by simp [go_sem]) (for_calls [102, 114, 111, 110, 116] _ _ [last, (b.drop k).take 3] _ hla2 (by decide) (by simp) hd2) ?_
            rintro e7 Wc3 ⟨rfl, hga3⟩
            refine ⟨_, rfl, ?_⟩
            rw [← HO.out.1]
            have hgg3 := grown_trans hgg2 hga3
            have hn3 := hn2.kept hga3 (by simp)
            refine hK _ _ ?_
            clear hK K
            simp only [Act.put, List.setIfInBounds_toArray, List.set_cons_zero, List.set_cons_succ]
            refine wpAny_ready (rs := [9]) (by kernel_rfl) (by simp) ?_
            refine AllReady.cons rfl (fun K hK => ?_) AllReady.nil
            refine step_store none rfl rfl rfl wr.drew.drew.heap.size 0 (own.map vb) _ _ rfl rfl hn3 (by rw [u8s_size, List.length_map, HO.out.2.1, List.length_replicate]; omega) (by intro v hv; obtain ⟨b, _, rfl⟩ := List.mem_map.1 hv; rfl) (by rw [Try.sid, List.length_map, HO.out.2.1]) ?_
            intro We4 hbe4 hge4 hze4
            clear hze4
            rw [lay_whole _ _ (by rw [u8s_size, List.length_map, HO.out.2.1, List.length_replicate])] at hbe4
            have hgf4 := grown_new hgg3 hge4 (fun q hq => by cases hq; exact h91)
            refine hK _ _ ?_
            clear hK K
            simp only [Act.put, List.setIfInBounds_toArray, List.set_cons_zero, List.set_cons_succ]
            refine wpAny_done (by kernel_rfl) ?_ _
            go_wp2_with fail
            go_meet
            exact ⟨_, rfl, hbe4, hgf4⟩
        case rest =>
          obtain ⟨g9, rfl, hb9, hg9⟩ := hcut
          have hown16 : BytesAt wc.drew (.slice (some ⟨g9, 0, none⟩) 16 32) (own.take 16) := Blk.part (o := 0) hb9 (by rw [List.length_take, HO.out.2.1]; rfl) (fun i hi => by
            rw [List.length_take, HO.out.2.1] at hi
            rw [Nat.zero_add, u8s_get _ _ (by rw [HO.out.2.1]; omega)]
            simp [vb, List.getD_eq_getElem?_getD, show i < 16 by omega])
          have hub := HU.out.1.grown0 (grown_trans hg9 (grown_drew wc none))
          have hlen : l = (b.drop k).length := by rw [List.length_drop, ← HB.out.2]; omega
          have h319 := hub.sub 3 16 (c - 3) (by rw [← hlen]; omega)
          have HI2 := Lib.hid (HI.out.step (grown_trans hg9 (grown_drew wc none)))
          obtain ⟨tO, htO⟩ : ∃ t, t = own.take 16 := ⟨_, rfl⟩
          obtain ⟨tB, htB⟩ : ∃ t, t = ((b.drop k).drop 3).take 16 := ⟨_, rfl⟩
          rw [← htO] at hown16
          rw [← htB] at h319
          have hOwn : tO = ownS last ((b.drop k).take 3) := by rw [htO, HO.out.1]; rfl
          have HL := Lib.hid (And.intro hlen (And.intro hOwn htB))
          have HU2 := Lib.hid hub
          obtain ⟨wd, hwd⟩ : ∃ wd, wd = wc.drew := ⟨_, rfl⟩
          have hn16 : n < 16777216 := by rw [HN.out.2]; exact n24_lt _
          have hl4 : (l : Int) ≤ 4194304 := by omega
          clear hub hlen htO htB hOwn hb9 hg9
          by_cases heq : tO = tB
          · have heqb : (tO == tB) = true := by rw [beq_iff_eq]; exact heq
            have HEQ := Lib.hid heq
            clear heq
            by_cases hnl : l - 35 < n
            · have hrd : rd1 last (b.drop k) = .stop := by
                unfold rd1
                rw [if_neg (by rw [← HL.out.1]; omega), if_neg (by rw [← HL.out.2.1, ← HL.out.2.2]; exact fun h => h HEQ.out), if_pos (by rw [← HL.out.1, ← HN.out.2]; exact hnl)]
              have ht : decide ((n : Int) > l - 35) = true := by rw [decide_eq_true_eq]; omega
              have ht2 : (l : Int) - 35 < n := by omega
              have HR := Lib.hid hrd
              clear hrd hnl
              go_wp2_with fail
              refine wp_region_still_lit (by kernel_rfl) (by kernel_rfl) ?_
              still_step
              refine wpStill_step (fun K hK => ?_)
              refine still_bstring rfl rfl (.slice (some ⟨g9, 0, none⟩) 16 32) tO 5 rfl hown16 Try.ubytes Try.uu8 Try.ustr ?_
              refine hK _ ?_
              clear hK K
              still_step
              still_step
              refine wpStill_step (fun K hK => ?_)
              refine still_bstring rfl rfl (.slice (some ⟨gu, k + 3, none⟩) 16 (c - 3)) tB 5 rfl h319 Try.ubytes Try.uu8 Try.ustr ?_
              refine hK _ ?_
              clear hK K
              simp only [Act.put, List.setIfInBounds_toArray, List.set_cons_zero, List.set_cons_succ]
              still_step
              still_step
              refine wpStill_nil ?_
              change Exit.then _ _ _ _ wc.drew
              go_wp2_with fail
              refine (scut_calls g v d k _ (HI2.out.slab HS.out) (by rw [← HB.out.1, ← HB.out.2]; exact hkn)).mono ?_
              rintro e8 W8 ⟨rfl, v8, hS8, hg8, hz8, hv8⟩
              have hfin := HI2.out.stop HS.out HB.out.1 HR.out (by rw [← HB.out.2]; exact hlt) hS8 hg8 hv8
              have HF := Lib.hid hfin
              clear hfin hS8 hg8 hz8 hv8
              rcases cut_code d k with hcc | hcc
              · have HC := Lib.hid hcc
                rw [hcc]
                clear hcc
                go_wp2_with fail
                try rw [Exit.noGoto_ret]
                go_ret2
                exact HF.out.1 HC.out
              · have HC := Lib.hid hcc
                rw [hcc]
                clear hcc
                go_wp2_with fail
                try rw [Exit.noGoto_ret]
                go_ret2
                exact HF.out.2 HC.out
            · have ht : decide ((n : Int) > l - 35) = false := by rw [decide_eq_false_iff_not]; omega
              have ht2 : (n : Int) ≤ l - 35 := by omega
              obtain ⟨data, hdata⟩ : ∃ data, data = ((b.drop k).drop 35).take n := ⟨_, rfl⟩
              have hdl : data.length = n := by rw [hdata, List.length_take, List.length_drop, ← HL.out.1]; omega
              obtain ⟨ad10, hif⟩ : ∃ ad, (if c = 35 then some ⟨gu, k, none⟩ else some ⟨gu, k + 35, none⟩ : Option Addr) = ad := ⟨_, rfl⟩
              have hdat : BytesAt wc.drew (.slice ad10 n (c - 35)) data := by
                have h1 := HU2.out.sub 35 n (c - 35) (by rw [← HL.out.1]; omega)
                rw [← hdata] at h1
                by_cases hc35 : c = 35
                · rw [if_pos hc35] at hif
                  have hn0 : n = 0 := by omega
                  have hd0 : data = [] := by apply List.eq_nil_of_length_eq_zero; omega
                  rw [hd0]
                  exact ⟨_, _, by rw [hn0]; rfl, .inl rfl⟩
                · rw [if_neg hc35] at hif
                  rw [← hif]; exact h1
              have e35 : IntKind.i64.wrap (35 + (n : Int)) = 35 + n := IntWalk.i64_in _ (by omega)
              have b35 : (35 : Int) + n ≤ c := by omega
              have p35 : (0 : Int) ≤ 35 + n := by omega
              have HD := Lib.hid (And.intro hdata (And.intro hdl hnl))
              clear hdata hdl hnl
              go_wp2_with fail
              refine wp_region_still_lit (by kernel_rfl) (by kernel_rfl) ?_
              still_step
              refine wpStill_step (fun K hK => ?_)
              refine still_bstring rfl rfl (.slice (some ⟨g9, 0, none⟩) 16 32) tO 5 rfl hown16 Try.ubytes Try.uu8 Try.ustr ?_
              refine hK _ ?_
              clear hK K
              still_step
              still_step
              refine wpStill_step (fun K hK => ?_)
              refine still_bstring rfl rfl (.slice (some ⟨gu, k + 3, none⟩) 16 (c - 3)) tB 5 rfl h319 Try.ubytes Try.uu8 Try.ustr ?_
              refine hK _ ?_
              clear hK K
              simp only [Act.put, List.setIfInBounds_toArray, List.set_cons_zero, List.set_cons_succ]
              still_step
              still_step
              refine wpStill_nil ?_
              change Exit.then _ _ _ _ wc.drew
              have hj2 := HI2.out.jour.blk
              go_wp2_with ((with_reducible refine law_load j 2 (last.map vb) _ _ _ ?_ hj2 ?_ Try.uid ?_ ?_ ?_); rfl; (intro i hi; rw [List.length_map] at hi; rw [jcells_last g _ ⟨rs, last, false⟩ i hi]; simp [List.getD_eq_getElem?_getD, List.getElem?_eq_getElem hi]); rfl; (rw [Try.sid, List.length_map, HO.out.2.2]))
              refine (jlink_calls last data _ _ HO.out.2.2 hdat (by have := HD.out.2.1; omega)).mono ?_
              rintro e10 W10 ⟨rfl, hg10⟩
              obtain ⟨all, hall⟩ : ∃ all, all = lnk last data := ⟨_, rfl⟩
              rw [← hall]
              have hal : all.length = 32 := by rw [hall]; exact lnk_length _ _
              have HAL := Lib.hid (And.intro hall hal)
              clear hall hal hj2 hown16 h319 heqb ht ht2 e35 b35 p35 hif
              go_wp2_with (with_reducible apply law_alloc _ Try.zid)
              intro W11 hb11 hg11 hz11
              obtain ⟨g11, hg11'⟩ : ∃ g, g = W10.heap.size := ⟨_, rfl⟩
              rw [← hg11'] at hb11 hz11
              rw [← hg11']
              replace hb11 : Blk W11 g11 (u8s (List.replicate 32 0)) 29 := hb11
              have HG11 := Lib.hid (And.intro hg11' hz11)
              clear hg11' hz11
              go_wp2_with ((with_reducible refine law_store g11 0 (all.map vb) _ _ ?_ ?_ hb11 ?_ ?_ ?_ ?_); rfl; rfl; (rw [u8s_size, List.length_map, HAL.out.2, List.length_replicate]; omega); (intro v hv; obtain ⟨b, _, rfl⟩ := List.mem_map.1 hv; rfl); (rw [Try.sid, List.length_map, HAL.out.2]))
              intro W12 hb12 hg12 hz12
              rw [lay_whole _ _ (by rw [u8s_size, List.length_map, HAL.out.2, List.length_replicate])] at hb12
              replace hb12 : Blk W12 g11 (u8s all) 29 := hb12
              clear hz12
              have hgw : wc.drew.grownBy W12 none := grown_new (grown_trans hg10 hg11) hg12 (fun q hq => by cases hq; have := HG11.out; have := hg10.size; omega)
              have HI3 := Lib.hid (HI2.out.step (grown_trans hgw (grown_drew W12 none)))
              have hall16 : BytesAt W12.drew (.slice (some ⟨g11, 0, none⟩) 16 32) (all.take 16) := Blk.part (o := 0) hb12 (by rw [List.length_take, HAL.out.2]; rfl) (fun i hi => by
                rw [List.length_take, HAL.out.2] at hi
                rw [Nat.zero_add, u8s_get _ _ (by rw [HAL.out.2]; omega)]
                simp [vb, List.getD_eq_getElem?_getD, show i < 16 by omega])
              have h1935 := (HU2.out.grown0 (grown_trans hgw (grown_drew W12 none))).sub 19 16 (c - 19) (by rw [← HL.out.1]; omega)
              have hdat2 := hdat.grown0 (grown_trans hgw (grown_drew W12 none))
              obtain ⟨tA, htA⟩ : ∃ t, t = all.take 16 := ⟨_, rfl⟩
              obtain ⟨tC, htC⟩ : ∃ t, t = ((b.drop k).drop 19).take 16 := ⟨_, rfl⟩
              rw [← htA] at hall16
              rw [← htC] at h1935
              have hAll : tA = (lnk last data).take 16 := by rw [htA, HAL.out.1]
              have HL3 := Lib.hid (And.intro hAll htC)
              have HDAT := Lib.hid (And.intro hdat2 hb12)
              have hdd : data = ((b.drop k).drop 35).take (n24 (b.drop k)) := by rw [HD.out.1, HN.out.2]
              have hrd1 : tA ≠ tC → rd1 last (b.drop k) = .torn := fun hne => by
                unfold rd1
                rw [if_neg (by rw [← HL.out.1]; omega), if_neg (by rw [← HL.out.2.1, ← HL.out.2.2]; exact fun h => h HEQ.out), if_neg (by rw [← HL.out.1, ← HN.out.2]; exact HD.out.2.2), if_pos (by rw [← hdd, ← HL3.out.1, ← HL3.out.2]; exact hne)]
              have hrd2 : tA = tC → rd1 last (b.drop k) = .next data := fun he => by
                unfold rd1
                rw [if_neg (by rw [← HL.out.1]; omega), if_neg (by rw [← HL.out.2.1, ← HL.out.2.2]; exact fun h => h HEQ.out), if_neg (by rw [← HL.out.1, ← HN.out.2]; exact HD.out.2.2), if_neg (by rw [← hdd, ← HL3.out.1, ← HL3.out.2]; exact fun h => h he), ← hdd]
              have hg10s : wc.drew.heap.size ≤ W10.heap.size := hg10.size
              clear htA htC hAll hg10 hg11 hg12 hb11 hb12 hdat hdat2 hgw hdd
              by_cases heq2 : tA = tC
              · have heqb2 : (tA == tC) = true := by rw [beq_iff_eq]; exact heq2
                have HR := Lib.hid (hrd2 heq2)
                clear hrd1 hrd2 heq2
                go_wp2_with fail
                refine wp_region_still_lit (by kernel_rfl) (by kernel_rfl) ?_
                still_step
                refine wpStill_step (fun K hK => ?_)
                refine still_bstring rfl rfl (.slice (some ⟨g11, 0, none⟩) 16 32) tA 5 rfl hall16 Try.ubytes Try.uu8 Try.ustr ?_
                refine hK _ ?_
                clear hK K
                still_step
                still_step
                refine wpStill_step (fun K hK => ?_)
                refine still_bstring rfl rfl (.slice (some ⟨gu, k + 19, none⟩) 16 (c - 19)) tC 5 rfl h1935 Try.ubytes Try.uu8 Try.ustr ?_
                refine hK _ ?_
                clear hK K
                simp only [Act.put, List.setIfInBounds_toArray, List.set_cons_zero, List.set_cons_succ]
                still_step
                refine wpStill_nil ?_
                change Exit.then _ _ _ _ W12.drew
                go_wp2_with fail
                obtain ⟨hdat3, hb12⟩ := HDAT.out
                have hb12' : Blk W12.drew g11 (u8s all) 29 := hb12
                have hg11n : g11 ≠ j ∧ (Value.slice adr nr capr).ownBlock ≠ some g11 := by
                  have hlt : ∀ q, JFoot j (.slice adr nr capr) es q → q < g11 := fun q hq => by
                    have := HI2.out.jour.lt q hq
                    have h2 := HG11.out.1
                    have h3 := hg10s
                    omega
                  exact ⟨fun e => by have := hlt j (.inl rfl); omega, fun e => by have := hlt g11 (.inr (.inl e)); omega⟩
                have HGN := Lib.hid hg11n
                clear hb12 hg11n HDAT hg10s
                generalize W12.drew = W13 at HI3 hdat3 hb12' ⊢
                have HB13 := Lib.hid hb12'
                clear hb12'
                have q1 := (jour_cells HI3.out.jour).2.1
                have fq1 := HI3.out.jour.blk.frozen 1
                have hjlt := HI3.out.jour.blk.lt
                have gX1 : W13.grownBy (W13.alloc (Obj.cells #[] 5)).drew none := grown_trans (World.grownBy_alloc W13 _ none) (grown_drew _ _)
                have q1' : (W13.alloc (Obj.cells #[] 5)).cell? ⟨j, 1, none⟩ = some (.slice adr nr capr) := cell_grown (World.grownBy_alloc W13 _ none) _ _ q1
                have hrow0 : Row (W13.alloc (Obj.cells #[] 5)).drew W13.heap.size 5 (.slice (some ⟨W13.heap.size, 0, none⟩) 0 0) [] :=
                  .inr ⟨W13.heap.size, 0, #[], (0, 0), rfl, Nat.le_refl _, heap_alloc_new W13 _, .inl ⟨rfl, rfl⟩, Nat.le_refl _, Nat.zero_le _, rfl, rfl⟩
                have hx1 := (hdat3.grown0 gX1).src
                have hns : n < 1099511627776 := by omega
                have HRS := Lib.hid (show rs.length < 1099511627776 by have := HI3.out.cnt; omega)
                clear hdat3
                go_region_law (first
                  | (refine step_append rfl _ _ _ rfl W13.heap.size 5 (.int .u8 0) Try.ubytes Try.iu8 rfl (.slice (some ⟨W13.heap.size, 0, none⟩) 0 0) (.slice ad10 n (c - 35)) [] (data.map vb) rfl rfl hrow0 hx1 ?_ ?_ ?_ ?_
                     · intro u hu; obtain ⟨b, _, rfl⟩ := List.mem_map.1 hu; rfl
                     · have := HD.out.2.1; rw [List.length_map]; simp; omega
                     · exact gX1.size
                     intro u Y1 hru hgu hnu
                     rw [List.nil_append] at hru
                     obtain ⟨adu, nu', capu', hu⟩ := hru.shape
                     subst hu
                     have gY1 : W13.grownBy Y1 none := grown_new gX1 hgu (fun k hk => by cases hk; exact Nat.le_refl _)
                     have cY1 : Y1.cell? ⟨j, 1, none⟩ = some (.slice adr nr capr) := cell_grown gY1 _ _ q1
                     have gZ : W13.grownBy (Y1.alloc (Obj.cells #[.slice adu nu' capu'] 30)) none := grown_trans gY1 (World.grownBy_alloc Y1 _ none)
                     have cZ : (Y1.alloc (Obj.cells #[.slice adu nu' capu'] 30)).cell? ⟨j, 1, none⟩ = some (.slice adr nr capr) := cell_grown gZ _ _ q1
                     have hs2 : SrcAt (Y1.alloc (Obj.cells #[.slice adu nu' capu'] 30)) (.slice (some ⟨Y1.heap.size, 0, none⟩) 1 1) [.slice adu nu' capu'] :=
                       ⟨_, 1, rfl, fun i u hu => ⟨_, rfl, by rw [add_at, Nat.zero_add, (Blk.new Y1 _ _).cell]; simpa using hu⟩⟩)
                  | (refine step_append rfl _ _ _ rfl 0 30 (.slice none 0 0) Try.ulists Try.ibytes rfl (.slice adr nr capr) (.slice (some ⟨Y1.heap.size, 0, none⟩) 1 1) es [.slice adu nu' capu'] rfl rfl (HI3.out.jour.row.grown gZ (.inl rfl)) hs2 ?_ ?_ (Nat.zero_le _) ?_
                     · intro u hu; rw [List.mem_singleton.1 hu]; rfl
                     · have h1 := HI3.out.jour.recs.length; have h2 := HRS.out; simp only [List.length_singleton]; simp only [] at h1; omega
                     intro v5 Y2 hr5 hg5 hn5
                     obtain ⟨ad5, n5, cap5, h5⟩ := hr5.shape
                     subst h5
                     have b5 := (HI3.out.jour.blk.kept gZ (by simp)).kept hg5 (fun e => HI3.out.jour.ne e.symm)
                     have c5 : Y2.cell? ⟨j, 1, none⟩ = some (.slice adr nr capr) := by rw [b5.cell, jcells, Array.append_assoc, Array.getElem?_append_left (by simp)]; rfl
                     have f5 := b5.frozen 1)
                  | fail)
                all_goals
                  obtain ⟨Y3, hY3⟩ : ∃ Y3, Y3 = Y2.setCell ⟨j, 1, none⟩ (.slice ad5 n5 cap5) := ⟨_, rfl⟩
                  rw [← hY3]
                  have hset := grown_set Y2 j 1 (.slice ad5 n5 cap5)
                  have hb3 := ((((HI3.out.jour.blk.kept gY1 (by simp)).kept (World.grownBy_alloc Y1 (Obj.cells #[.slice adu nu' capu'] 30) none) (by simp)).kept hg5 (fun e => HI3.out.jour.ne e.symm)).set 1 (.slice ad5 n5 cap5))
                  rw [jcells_put, ← hY3] at hb3
                  rw [← hY3] at hset
                  have h11 : Blk Y3 g11 (u8s all) 29 := ((HB13.out.kept gZ (by simp)).kept hg5 (fun e => HGN.out.2 e.symm)).kept hset (fun e => HGN.out.1 (Option.some.inj e))
                  have FIN : Hid (∀ Y4 : World, Y3.grownBy Y4 (some j) → Blk Y4 j (jcells g (.slice ad5 n5 cap5) ⟨rs ++ [data], lnk last data, false⟩) 78 →
                      Try.OInv g v d b (.slice (some ⟨gu, 0, none⟩) nu capu) j w Y4 (k + (35 + data.length)) (rs ++ [data]) (lnk last data) (.slice ad5 n5 cap5) (es ++ [.slice adu nu' capu'])) := fun Y4 g4 hb4 =>
                    HI3.out.more HS.out HR.out gY1 hru (World.grownBy_alloc Y1 (Obj.cells #[.slice adu nu' capu'] 30) none) hr5 hg5 hn5 (by rw [← hY3]; exact g4) hb4
                  clear gY1 hru hr5 hg5 hn5 cY1 gZ cZ hs2 b5 c5 f5 hgu hnu hY3 q1 fq1 q1' gX1 hrow0 hx1 hjlt hset
                  have e35 : IntKind.i64.wrap (35 + (n : Int)) = 35 + n := IntWalk.i64_in _ (by omega)
                  have e36 : IntKind.i64.wrap ((k : Int) + (35 + n)) = k + (35 + n) := IntWalk.i64_in _ (by omega)
                  have hb3' : Blk Y3 j (jcells g (.slice ad5 n5 cap5) ⟨rs, last, false⟩) 78 := hb3
                  clear hb3
                  go_wp2_with (first | ((with_reducible refine law_loadw g11 (u8s all) _ _ ?_ h11 Try.uid ?_ ?_ ?_); rfl; rfl; (rw [Try.sid, u8s_size, HAL.out.2])) |
                    ((with_reducible refine law_store j 2 (all.map vb) _ _ ?_ ?_ hb3' ?_ ?_ ?_ ?_); rfl; rfl; (rw [jcells_size _ _ _ HO.out.2.2, List.length_map, HAL.out.2]; omega); (intro v hv; obtain ⟨b, _, rfl⟩ := List.mem_map.1 hv; rfl); (rw [Try.sid, List.length_map, HAL.out.2])))
                  intro Y4 hb4 hg4 hz4
                  rw [jcells_lay _ _ _ _ HO.out.2.2 HAL.out.2] at hb4
                  have hfin := FIN.out Y4 hg4 (by rw [← HAL.out.1]; exact hb4)
                  have HF := Lib.hid hfin
                  clear hb4 hg4 hz4 hfin FIN
                  go_wp2_with fail
                  go_roundw
                  case rel =>
                    refine ⟨k + (35 + data.length), _, _, _, _, ?_, HF.out⟩
                    rw [HD.out.2.1]; go_num
                  case measure => simp [intOf]; omega
              · have heqb2 : (tA == tC) = false := by rw [beq_eq_false_iff_ne]; exact heq2
                have HR := Lib.hid (hrd1 heq2)
                clear hrd1 hrd2 heq2
                go_wp2_with fail
                refine wp_region_still_lit (by kernel_rfl) (by kernel_rfl) ?_
                still_step
                refine wpStill_step (fun K hK => ?_)
                refine still_bstring rfl rfl (.slice (some ⟨g11, 0, none⟩) 16 32) tA 5 rfl hall16 Try.ubytes Try.uu8 Try.ustr ?_
                refine hK _ ?_
                clear hK K
                still_step
                still_step
                refine wpStill_step (fun K hK => ?_)
                refine still_bstring rfl rfl (.slice (some ⟨gu, k + 19, none⟩) 16 (c - 19)) tC 5 rfl h1935 Try.ubytes Try.uu8 Try.ustr ?_
                refine hK _ ?_
                clear hK K
                simp only [Act.put, List.setIfInBounds_toArray, List.set_cons_zero, List.set_cons_succ]
                still_step
                refine wpStill_nil ?_
                change Exit.then _ _ _ _ W12.drew
                go_wp2_with fail
                try rw [Exit.noGoto_ret]
                go_ret2
                exact HI3.out.torn HS.out HB.out.1 HR.out (grown_refl _ _)
          · have heqb : (tO == tB) = false := by rw [beq_eq_false_iff_ne]; exact heq
            have hrd : rd1 last (b.drop k) = .torn := by
              unfold rd1
              rw [if_neg (by rw [← HL.out.1]; omega), if_pos (by rw [← HL.out.2.1, ← HL.out.2.2]; exact heq)]
            have HR := Lib.hid hrd
            clear hrd heq
            go_wp2_with fail
            refine wp_region_still_lit (by kernel_rfl) (by kernel_rfl) ?_
            still_step
            refine wpStill_step (fun K hK => ?_)
            refine still_bstring rfl rfl (.slice (some ⟨g9, 0, none⟩) 16 32) tO 5 rfl hown16 Try.ubytes Try.uu8 Try.ustr ?_
            refine hK _ ?_
            clear hK K
            still_step
            still_step
            refine wpStill_step (fun K hK => ?_)
            refine still_bstring rfl rfl (.slice (some ⟨gu, k + 3, none⟩) 16 (c - 3)) tB 5 rfl h319 Try.ubytes Try.uu8 Try.ustr ?_
            refine hK _ ?_
            clear hK K
            simp only [Act.put, List.setIfInBounds_toArray, List.set_cons_zero, List.set_cons_succ]
            still_step
            still_step
            refine wpStill_nil ?_
            change Exit.then _ _ _ _ wc.drew
            go_wp2_with fail
            try rw [Exit.noGoto_ret]
            go_ret2
            exact HI2.out.torn HS.out HB.out.1 HR.out (grown_refl _ _)
    · obtain rfl : k = nu := by omega
      have HI := Lib.hid hI
      clear hI
      go_wp2_with fail
      try rw [Exit.noGoto_ret]
      go_ret2
      have hI := HI.out
      have hbl := HB.out.2
      subst hbl
      exact hI.whole HS.out HB.out.1
end Go.Proofs.Yteicjpjniaohhaa
