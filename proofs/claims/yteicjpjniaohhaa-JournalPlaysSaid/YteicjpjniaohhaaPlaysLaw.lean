/- JournalPlays returns true for every input and leaves its arguments as they were: a journal that is written, cut off, crashed, spoilt and opened again has just the document's records, and its slab the document's bytes. No condition. -/
import Derived.Test.YteicjpjniaohhaaPlays
import Derived.Test.YteicjpjniaohhaaOpenLists
import Derived.Test.YteicjpjniaohhaaRows
import Derived.OpenShut
import Derived.ShutString
import Derived.Lib.SmallJoins
namespace Scv
open Go Go.RowKit
theorem wf_i64' {n : Int} (h : (Lit.int .i64 n).wf = true) : -9223372036854775808 ≤ n ∧ n ≤ 9223372036854775807 := by
  simp [Lit.wf, IntKind.min, IntKind.max, IntKind.signed, IntKind.bits] at h
  omega
instance : Inhabited OpR := ⟨⟨0, 0, 0, [], .slice none 0 0⟩⟩
theorem bytes_of_ints {w : World} {a : Addr} {len cap : Nat} {zs : List Int} (hlen : len ≤ zs.length) (hc : ∀ i, i < zs.length → w.cell? (a.add i) = some (.int .u8 (zs.getD i 0))) (hw : ∀ n ∈ zs, (Lit.int .u8 n).wf = true) :
    ∃ l : List UInt8, BytesAt w (.slice (some a) len cap) l := by
  refine ⟨(zs.take len).map fun n => UInt8.ofNat n.toNat, some a, cap, by simp; omega, ?_⟩
  by_cases h0 : len = 0
  · left; subst h0; simp
  · right
    obtain ⟨b, off, spot⟩ := a
    have hc0 := hc 0 (by omega)
    have hspot : spot = none := by simpa [Addr.add] using World.cell?_spot hc0
    subst hspot
    refine ⟨b, off, rfl, fun i hi => ?_⟩
    simp only [List.length_map, List.length_take] at hi
    have hci := hc i (by omega)
    rw [add_at] at hci
    rw [hci]
    have hi2 : i < zs.length := by omega
    have hb : byt ((zs.take len).map fun n => UInt8.ofNat n.toNat) i = (zs.getD i 0).toNat % 256 := by
      simp only [byt, List.getD_eq_getElem?_getD, List.getElem?_map, List.getElem?_take, if_pos (show i < len by omega), List.getElem?_eq_getElem hi2, Option.map_some, Option.getD_some]
      rw [UInt8.toNat_ofNat']
    have hr := wf_u8 (hw (zs.getD i 0) (by rw [List.getD_eq_getElem?_getD, List.getElem?_eq_getElem hi2]; exact List.getElem_mem hi2))
    rw [hb]
    have : ((zs.getD i 0).toNat % 256 : Nat) = (zs.getD i 0).toNat := by omega
    rw [this, Int.toNat_of_nonneg hr.1]
end Scv
namespace Go.Proofs.Yteicjpjniaohhaa
open Go.ChangeShapes Go.WideShapes Go.ChangeAt Go.RowKit Go.Deep Scv
section
variable {H : Type} {enc : TypeId × Value → H} {W : World}
set_option maxRecDepth 100000 in
/-- one thing that is done -/
theorem op_of {fuel : Nat} {cs : List Value} {x : DataW H × List MemPlace} (h : DataW.trod enc Try.prog W 0 (fun _ => true) true fuel 56 cs = some x) : ∃ r : OpR, r.ok W ∧ cs = (opcells r).toList := by
  obtain ⟨y0, y1, y2, y3, n, _, hl, h0, h1, h2, h3⟩ := Joins.trod_struct4 Try.underlying56 h
  have hl : cs.length = 4 := hl.trans (by kernel_rfl)
  match cs, hl with
  | [c0, c1, c2, c3], _ =>
    have s0 : Try.prog.cellsOf 3 = 1 := by kernel_rfl
    have s2 : Try.prog.cellsOf 5 = 1 := by kernel_rfl
    have s3 : Try.prog.cellsOf 30 = 1 := by kernel_rfl
    simp only [s0, List.drop_zero, List.take_succ_cons, List.take_zero, List.drop_succ_cons] at h0 h1
    simp only [s2, List.take_succ_cons, List.take_zero, List.drop_succ_cons, List.drop_zero] at h2
    simp only [s3, List.take_succ_cons, List.take_zero, List.drop_succ_cons, List.drop_zero] at h3
    obtain ⟨a0, e0, _, w0⟩ := DataW.trod_int Try.underlying3 h0
    obtain ⟨a1, e1, _, w1⟩ := DataW.trod_int Try.underlying3 h1
    obtain ⟨a2, e2, _, w2⟩ := DataW.trod_int Try.underlying5 h2
    simp only [List.cons.injEq, and_true] at e0 e1 e2
    have hb : ∃ l : List UInt8, BytesAt W c3 l := by
      rcases open_ints Try.underlying30 Try.underlying5 (by kernel_rfl) h3 with ⟨hcs, _⟩ | ⟨a, len, cap, zs, hcs, _, hle, _, hz, _, hcell, hwz⟩
      · simp only [List.cons.injEq, and_true] at hcs
        exact ⟨[], none, 0, hcs, .inl rfl⟩
      · simp only [List.cons.injEq, and_true] at hcs
        simp only [if_true] at hz
        rw [hcs]
        exact bytes_of_ints (by omega) hcell hwz
    obtain ⟨l, hbl⟩ := hb
    have hx := wf_u8 w2
    refine ⟨⟨a0, a1, UInt8.ofNat a2.toNat, l, c3⟩, ⟨wf_i64' w0, wf_i64' w1, hbl⟩, ?_⟩
    have hxb : ((UInt8.ofNat a2.toNat).toNat : Int) = a2 := by rw [UInt8.toNat_ofNat']; omega
    simp only [opcells, hxb]
    rw [e0, e1, e2]
set_option maxRecDepth 100000 in
theorem ops_of {fuel : Nat} {a0 : Option Addr} {len0 cap0 : Nat} {x : DataW H × List MemPlace} (h : DataW.trod enc Try.prog W 0 (fun _ => true) true fuel 45 [.slice a0 len0 cap0] = some x) : ∃ ops, OpsAt W (.slice a0 len0 cap0) ops := by
  rcases open_slice Try.underlying45 h with ⟨hcs, _⟩ | ⟨a, len, cap, m, n, D, Pl, hcs, _, hl, _, hmm, _, hi⟩
  · simp only [List.cons.injEq, Value.slice.injEq, and_true] at hcs
    obtain ⟨rfl, rfl, rfl⟩ := hcs
    exact ⟨[], none, 0, rfl, .inl rfl, by simp⟩
  · simp only [List.cons.injEq, Value.slice.injEq, and_true] at hcs
    obtain ⟨rfl, rfl, rfl⟩ := hcs
    simp only [if_true] at hmm
    have hc4 : Try.prog.cellsOf 56 = 4 := by kernel_rfl
    have each : ∀ i, i < len0 → ∃ r : OpR, r.ok W ∧ ∀ k, k < 4 → W.cell? (a.add (i * 4 + k)) = (opcells r)[k]? := fun i hil => by
      obtain ⟨cs', hc, ht⟩ := hi i (by omega)
      obtain ⟨r, hr, he⟩ := op_of ht
      rw [hc4] at hc
      obtain ⟨_, _, hat⟩ := World.cells?_some hc
      refine ⟨r, hr, fun k hk => ?_⟩
      have := hat k hk
      rw [Go.Deep.add_add] at this
      rw [this, he]; simp
    obtain ⟨y, hy⟩ := choose_lt each
    refine ⟨(List.range len0).map y, some a, cap0, by simp, ?_, ?_⟩
    · by_cases h0 : len0 = 0
      · left; subst h0; rfl
      · right
        obtain ⟨b, off, spot⟩ := a
        have hc0 := (hy 0 (by omega)).2 0 (by omega)
        have hspot : spot = none := by simpa [Addr.add] using World.cell?_spot (show W.cell? _ = some (.int .i64 (y 0).kind) from hc0)
        subst hspot
        refine ⟨b, off, rfl, fun i hi k hk => ?_⟩
        simp only [List.length_map, List.length_range] at hi
        have := (hy i hi).2 k hk
        rw [add_at] at this
        simp only [List.getElem_map, List.getElem_range]
        rw [← this, Nat.add_assoc]
    · intro r hr
      obtain ⟨i, hi, rfl⟩ := List.mem_map.1 hr
      exact (hy i (List.mem_range.1 hi)).1
end
theorem playsOwn : ownKnob Try.prog.godebug = none := by kernel_rfl
theorem playsLaid : laidOutB Try.prog = true := by kernel_rfl
set_option maxRecDepth 100000 in
theorem playsLifted (os : Os) (started : os.Started) (H : Type) (enc : TypeId × Value → H) :
    ReturnsInHanded {} Try.checked os 6 .any (Rows.journalPlaysSpec.pre6 enc Try.prog Try.f6 Rows.journalPlaysRow.domain false) (Rows.journalPlaysSpec.post enc Try.prog Try.f6 false true false false) := by
  refine returnsInHanded_of_change (C := Try.checked) playsOwn started (by kernel_rfl) Try.func6
    (ChangeSpec.witness6 (enc := enc) (C := Try.checked) false ⟨#[], #[.int .i64 0, .slice none 0 0], []⟩ 8 (by kernel_rfl) (by kernel_rfl) (by kernel_rfl) (by kernel_rfl)) ?_
  intro W base args ds gs before hval0 hW hcnd _
  have hval : ∀ (j : Nat) t v, Try.f6.params[j]? = some t → args[j]? = some v → Value.okWide Try.prog W .any base t v := hval0
  have hW' := hW
  obtain ⟨p, q, hA0, hV, rfl, hfz, hnd⟩ := hW
  have hA : DataW.TrodAll enc Try.prog W 0 (fun _ => true) true Try.f6.params.toList args.toList ds p := hA0
  rw [Try.params6] at hA hval
  obtain ⟨v0, vs0, d0, ds0, p0, q0, hargs, rfl, rfl, h0, r0⟩ := trodAll_cons hA
  obtain ⟨v1, vs1, d1, ds1, p1, q1, rfl, rfl, rfl, h1, r1⟩ := trodAll_cons r0
  obtain ⟨rfl, rfl, rfl⟩ := trodAll_nil r1
  obtain rfl : args = #[v0, v1] := by cases args; simp_all
  obtain ⟨rfl, rfl⟩ := trodVars_none hV
  obtain ⟨a1, len1, cap1, rfl⟩ := okWide_slice Try.underlying45 (hval 1 45 v1 rfl rfl)
  have k1 := h1
  have lt1 : ∀ x ∈ p1, x.block < W.heap.size := by obtain ⟨m, hm⟩ := k1; exact DataW.trod_lt m _ _ _ hm
  obtain ⟨ops, w1⟩ : ∃ ops, OpsAt W (.slice a1 len1 cap1) ops := by
    obtain ⟨fuel, hf⟩ := h1
    exact ops_of hf
  obtain ⟨a0, rfl, rfl, rfl, w0⟩ := open_int Try.underlying3 (hval 0 3 v0 rfl rfl) h0
  clear hA0 hval0
  refine (plays_calls _ ops a0 W w1).mono fun e W' ⟨he, hgr⟩ => ?_
  have bel := grown_below hgr
  subst he
  exact ⟨_, rfl, _, _, _, [], _, [], hW', trodAll_mk1 (shut_bool Try.underlying4 _), (trodAll_cons_mk (shut_int Try.underlying3 w0) (trodAll_cons_mk (Below.trod playsLaid (by kernel_rfl) (of_decide_eq_true (by kernel_rfl)) k1 bel lt1) trodAll_mk0)), rfl, bel.frame _, fun h => by cases h⟩
theorem playsOver : Rows.journalPlaysRow.holds Try.pinned (OpenSpec.ofChange Rows.journalPlaysSpec) :=
  OpenClaim.holds_of_wide 6 Try.f6 rfl rfl rfl rfl rfl rfl rfl ⟨rfl, rfl, rfl, rfl, rfl⟩ rfl rfl rfl rfl rfl (by kernel_rfl) Try.func6 (by kernel_rfl)
    (of_decide_eq_true (by kernel_rfl)) (by unfold Func.isWrapper; first | (rw [if_pos (by decide +kernel)]; kernel_rfl) | (rw [if_neg (by decide +kernel)]; exact ⟨rfl, rfl⟩))
    (fun os started H enc _ => playsLifted os started H enc)
theorem journalPlays_proved : Rows.JournalPlaysSaid := playsOver
#print axioms journalPlays_proved
end Go.Proofs.Yteicjpjniaohhaa
