/- The journal: Write. -/
import Derived.Test.YteicjpjniaohhaaJour
set_option linter.unusedVariables false
set_option linter.unusedSimpArgs false
namespace Scv
open Go Go.RowKit
theorem jcells_put (g : Nat) (rv : Value) (s : Jour) (rv' : Value) : (jcells g rv s).setIfInBounds 1 rv' = jcells g rv' s := by
  apply Array.toList_inj.1; simp [jcells]
theorem jcells_putd (g : Nat) (rv : Value) (s : Jour) (b : Bool) (hl : s.last.length = 32) : (jcells g rv s).setIfInBounds 34 (.bool b) = jcells g rv { s with down := b } := by
  apply Array.toList_inj.1
  simp only [jcells, Array.toList_setIfInBounds, Array.toList_append, u8s]
  rw [List.set_append_right _ _ (by simp [hl])]
  simp [hl]
theorem jcells_lay (g : Nat) (rv : Value) (s : Jour) (new : List UInt8) (hl : s.last.length = 32) (hn : new.length = 32) : lay (jcells g rv s) 2 (new.map vb) = jcells g rv { s with last := new } := by
  unfold lay jcells
  apply Array.toList_inj.1
  simp only [Array.toList_append, u8s, List.length_map, hn]
  rw [List.append_assoc [Value.pointer (some ⟨g, 0, none⟩), rv], List.take_left' (by rfl), List.drop_append, List.drop_append]
  simp [hl]
/-- another journal at the same block -/
theorem JourAt.put {TJ TB E : TypeId} {w W : World} {j g : Nat} {rv : Value} {es : List Value} {s s' : Jour} (h : JourAt TJ TB E w j g rv es s) (hg : w.grownBy W (some j)) (hb : Blk W j (jcells g rv s') TJ) (hr : s'.records = s.records) (hl : s'.last.length = 32) : JourAt TJ TB E W j g rv es s' :=
  ⟨hb, h.row.grown hg (.inr h.ne), by rw [hr]; exact h.recs.imp (fun e _ he hh => ⟨hh.1.grown hg (.inr (fun e' => (hh.2 j e').1 rfl)), hh.2⟩), hl, h.ne⟩
end Scv
namespace Go.Proofs.Yteicjpjniaohhaa
open Go.RowKit Go.Shelf Scv
/-- what Write leaves -/
def Try.Written (j g : Nat) (v rv : Value) (es : List Value) (w w' : World) (r : Jour × Disk × Int) : Prop :=
  ∃ v' rv' es', Try.SlabAt w' g v' r.2.1 ∧ Try.JourAt w' j g rv' es' r.1 ∧ Same (fun k => ¬ SFoot g v k ∧ k ≠ j ∧ rv.ownBlock ≠ some k) w w' ∧ (∀ k, SFoot g v' k → SFoot g v k ∨ w.heap.size ≤ k) ∧
    (∀ k, JFoot j rv' es' k → JFoot j rv es k ∨ w.heap.size ≤ k) ∧ (∀ k, SFoot g v' k → ¬ JFoot j rv' es' k)
/-- what holds on the way: the slab is another one, the journal is as it was -/
structure Try.Mid (j g : Nat) (v rv : Value) (es : List Value) (s : Jour) (w W : World) (v' : Value) (d' : Disk) : Prop where
  slab : Try.SlabAt W g v' d'
  jour : Try.JourAt W j g rv es s
  same : Same (fun k => ¬ SFoot g v k) w W
  foot : ∀ k, SFoot g v' k → SFoot g v k ∨ w.heap.size ≤ k
  sep : ∀ k, SFoot g v' k → ¬ JFoot j rv es k
  old : ∀ k, JFoot j rv es k → ¬ SFoot g v k
theorem Try.Mid.down {j g : Nat} {v rv : Value} {es : List Value} {s : Jour} {w W : World} {v' : Value} {d' : Disk} (h : Try.Mid j g v rv es s w W v' d') (b : Bool) (c : Int) :
    Try.Written j g v rv es w (W.setCell ⟨j, 34, none⟩ (.bool b)) ({ s with down := b }, d', c) := by
  have hg := grown_set W j 34 (.bool b)
  have hb := h.jour.blk.set 34 (.bool b)
  rw [jcells_putd g rv s b h.jour.len] at hb
  refine ⟨v', rv, es, h.slab.same (R := fun k => k ≠ j) (Same.of_grown hg (fun k hk e => hk (Option.some.inj e))) (fun k hk e => h.sep k hk (.inl e)), h.jour.put hg hb rfl h.jour.len, ?_, h.foot, fun k hk => .inl hk, h.sep⟩
  exact (h.same.mono (fun k hk => hk.1)).trans (Same.of_grown hg (fun k hk e => hk.2.1 (Option.some.inj e)))
theorem Try.Mid.sync {j g : Nat} {v rv : Value} {es : List Value} {s : Jour} {w W W' : World} {v' : Value} {d' d2 : Disk} (h : Try.Mid j g v rv es s w W v' d') (hs : Try.SlabAt W' g v' d2) (hg : W.grownBy W' (some g)) : Try.Mid j g v rv es s w W' v' d2 :=
  ⟨hs, h.jour.same (R := fun k => k ≠ g) (Same.of_grown hg (fun k hk e => hk (Option.some.inj e))) (fun k hk e => h.sep k (.inl e) hk),
    h.same.trans (Same.of_grown hg (fun k hk e => hk (.inl (Option.some.inj e)))), h.foot, h.sep, h.old⟩
theorem Try.Mid.cells {j g : Nat} {v rv : Value} {es : List Value} {s : Jour} {w W : World} {v' : Value} {d' : Disk} (h : Try.Mid j g v rv es s w W v' d') :
    W.cell? ⟨j, 0, none⟩ = some (.pointer (some ⟨g, 0, none⟩)) ∧ W.cell? ⟨j, 1, none⟩ = some rv ∧ W.cell? ⟨j, 34, none⟩ = some (.bool s.down) ∧ ∀ i, W.frozen? ⟨j, i, none⟩ = false :=
  ⟨(jour_cells h.jour).1, (jour_cells h.jour).2.1, (jour_cells h.jour).2.2.1, h.jour.blk.frozen⟩
theorem _root_.Scv.Row.base {w : World} {base : Nat} {e : TypeId} {v : Value} {xs : List Value} (h : Row w base e v xs) : Row w 0 e v xs := by
  rcases h with h | ⟨g, cap, cur, fr, h1, _, h2⟩
  · exact .inl h
  · exact .inr ⟨g, cap, cur, fr, h1, Nat.zero_le _, h2⟩
/-- what Write leaves, the slices named -/
structure Try.Wr (j g : Nat) (v rv : Value) (es : List Value) (w w' : World) (v' rv' : Value) (es' : List Value) (s' : Jour) (d' : Disk) : Prop where
  slab : Try.SlabAt w' g v' d'
  jour : Try.JourAt w' j g rv' es' s'
  same : Same (fun k => ¬ SFoot g v k ∧ k ≠ j ∧ rv.ownBlock ≠ some k) w w'
  foot : ∀ k, SFoot g v' k → SFoot g v k ∨ w.heap.size ≤ k
  jfoot : ∀ k, JFoot j rv' es' k → JFoot j rv es k ∨ w.heap.size ≤ k
  sep : ∀ k, SFoot g v' k → ¬ JFoot j rv' es' k
theorem Try.Mid.more {j g : Nat} {v rv : Value} {es : List Value} {s : Jour} {w W : World} {v' : Value} {d' : Disk} (h : Try.Mid j g v rv es s w W v' d') {Y1 Z Y2 : World} {u v5 : Value} {data : List UInt8}
    (gY1 : W.grownBy Y1 none) (hru : Row Y1 W.heap.size 5 u (data.map vb)) (gA : Y1.grownBy Z none) (hr5 : Row Y2 0 30 v5 (es ++ [u])) (hg5 : Z.grownBy Y2 rv.ownBlock) (hn5 : ∀ k, v5.ownBlock = some k → rv.ownBlock = some k ∨ Z.heap.size ≤ k) :
    Try.Wr j g v rv es w (Y2.setCell ⟨j, 1, none⟩ v5) v' v5 (es ++ [u]) { s with records := s.records ++ [data] } d' := by
  have hset := grown_set Y2 j 1 v5
  have z1 := gY1.size
  have z2 := gA.size
  have hjW := h.jour.blk.lt
  have zw := h.same.size
  have chain : Same (fun k => k ≠ j ∧ rv.ownBlock ≠ some k) W (Y2.setCell ⟨j, 1, none⟩ v5) :=
    ((Same.of_grown (grown_trans gY1 gA) (fun _ _ => by simp)).trans (Same.of_grown hg5 (fun k hk e => hk.2 e.symm))).trans (Same.of_grown hset (fun k hk e => hk.1 (Option.some.inj e)))
  have chainu : Same (fun k => k ≠ j ∧ rv.ownBlock ≠ some k) Y1 (Y2.setCell ⟨j, 1, none⟩ v5) :=
    ((Same.of_grown gA (fun _ _ => by simp)).trans (Same.of_grown hg5 (fun k hk e => hk.2 e.symm))).trans (Same.of_grown hset (fun k hk e => hk.1 (Option.some.inj e)))
  have rvlt : ∀ k, rv.ownBlock = some k → k < W.heap.size := fun k hk => (h.jour.row.lt k hk).2
  have hne5 : v5.ownBlock ≠ some j := fun e => by
    rcases hn5 j e with h' | h'
    · exact h.jour.ne h'
    · omega
  have hub : ∀ k, u.ownBlock = some k → W.heap.size ≤ k ∧ k < Y1.heap.size := fun k hk => hru.lt k hk
  have huN : ∀ k, u.ownBlock = some k → k ≠ j ∧ rv.ownBlock ≠ some k := fun k hk => ⟨fun e => by have := hub k hk; omega, fun e => by have := hub k hk; have := rvlt k e; omega⟩
  refine ⟨h.slab.same chain (fun k hk => ⟨fun e => h.sep k hk (.inl e), fun e => h.sep k hk (.inr (.inl e))⟩), ⟨?_, hr5.grown hset (.inr hne5), ?_, h.jour.len, hne5⟩, ?_, h.foot, ?_, ?_⟩
  · have := (((h.jour.blk.kept gY1 (by simp)).kept gA (by simp)).kept hg5 (fun e => h.jour.ne e.symm)).set 1 v5
    rw [jcells_put] at this
    exact this
  · refine Recs.append (h.jour.recs.imp (fun e l he hh => ⟨hh.1.same chain (fun k hk => hh.2 k hk), fun k hk => ⟨(hh.2 k hk).1, fun e' => ?_⟩⟩)) ⟨⟨hru.base.same chainu huN, fun k hk => ⟨(huN k hk).1, fun e' => ?_⟩⟩, trivial⟩
    · rcases hn5 k e' with h' | h'
      · exact (hh.2 k hk).2 h'
      · have := (hh.1.lt k hk).2; omega
    · rcases hn5 k e' with h' | h'
      · exact (huN k hk).2 h'
      · have := hub k hk; omega
  · exact (h.same.mono (fun k hk => hk.1)).trans (chain.mono (fun k hk => hk.2))
  · rintro k (rfl | hk | ⟨e, he, hk⟩)
    · exact .inl (.inl rfl)
    · rcases hn5 k hk with h' | h'
      · exact .inl (.inr (.inl h'))
      · exact .inr (by omega)
    · rcases List.mem_append.1 he with he | he
      · exact .inl (.inr (.inr ⟨e, he, hk⟩))
      · rw [List.mem_singleton.1 he] at hk
        exact .inr (by have := hub k hk; omega)
  · rintro k hs (rfl | hk | ⟨e, he, hk⟩)
    · exact h.sep k hs (.inl rfl)
    · rcases hn5 k hk with h' | h'
      · exact h.sep k hs (.inr (.inl h'))
      · have := h.slab.lt k hs; omega
    · rcases List.mem_append.1 he with he | he
      · exact h.sep k hs (.inr (.inr ⟨e, he, hk⟩))
      · rw [List.mem_singleton.1 he] at hk
        have := hub k hk; have := h.slab.lt k hs; omega
/-- the journal's own cells are others -/
theorem Try.Wr.put {j g : Nat} {v rv : Value} {es : List Value} {w W W' : World} {v' rv' : Value} {es' : List Value} {s s' : Jour} {d' : Disk} (h : Try.Wr j g v rv es w W v' rv' es' s d') (hg : W.grownBy W' (some j))
    (hb : Blk W' j (jcells g rv' s') 78) (hr : s'.records = s.records) (hl : s'.last.length = 32) : Try.Wr j g v rv es w W' v' rv' es' s' d' :=
  ⟨h.slab.same (R := fun k => k ≠ j) (Same.of_grown hg (fun k hk e => hk (Option.some.inj e))) (fun k hk e => h.sep k hk (.inl e)), h.jour.put hg hb hr hl,
    h.same.trans (Same.of_grown hg (fun k hk e => hk.2.1 (Option.some.inj e))), h.foot, h.jfoot, h.sep⟩
theorem Try.Wr.step {j g : Nat} {v rv : Value} {es : List Value} {w W W' : World} {v' rv' : Value} {es' : List Value} {s : Jour} {d' : Disk} (h : Try.Wr j g v rv es w W v' rv' es' s d') (hg : W.grownBy W' none) : Try.Wr j g v rv es w W' v' rv' es' s d' :=
  ⟨h.slab.same (R := fun _ => True) (Same.of_grown hg (fun _ _ => by simp)) (fun _ _ => trivial), h.jour.same (R := fun _ => True) (Same.of_grown hg (fun _ _ => by simp)) (fun _ _ => trivial),
    h.same.trans (Same.of_grown hg (fun _ _ => by simp)), h.foot, h.jfoot, h.sep⟩
theorem append_cases (d : Disk) (b : List UInt8) : d.append b = (d, 3) ∨ d.append b = (d, 90) ∨ d.append b = ({ d.step with bytes := d.bytes ++ b }, 0) := by
  unfold Disk.append; split
  · exact .inl rfl
  · split
    · exact .inr (.inl rfl)
    · exact .inr (.inr rfl)
set_option maxRecDepth 100000 in
set_option maxHeartbeats 4000000 in
theorem jwrite_calls (j g : Nat) (v rv : Value) (es : List Value) (s : Jour) (d : Disk) (x : Value) (data : List UInt8) (w : World) (hs : Try.SlabAt w g v d) (hj : Try.JourAt w j g rv es s) (hsep : ∀ k, SFoot g v k → ¬ JFoot j rv es k)
    (hx : BytesAt w x data) (hxn : data ≠ [] → ∀ k, x.ownBlock = some k → ¬ SFoot g v k ∧ k ≠ j ∧ rv.ownBlock ≠ some k) (hlen : s.records.length < 1099511627776) :
    Calls Try.prog 15 #[.pointer (some ⟨j, 0, none⟩), x] w fun e w' => e = .returned (.int .i64 (s.write d data).2.2) ∧ Try.Written j g v rv es w w' (s.write d data) := by
  obtain ⟨adr, nr, capr, hrv⟩ := hj.row.shape
  subst hrv
  obtain ⟨c0, c1, c2, _⟩ := jour_cells hj
  obtain ⟨adx, capx, hxv, _⟩ := id hx
  obtain ⟨m, hm⟩ : ∃ m, m = data.length := ⟨_, rfl⟩
  rw [← hm] at hxv
  subst hxv
  have stay : Try.Written j g v (.slice adr nr capr) es w w (s, d, 0) := ⟨v, (.slice adr nr capr), es, hs, hj, Same.refl _ _, fun k hk => .inl hk, fun k hk => .inl hk, hsep⟩
  have STAY := Lib.hid stay
  clear stay
  by_cases hdown : s.down = true
  · have hw : s.write d data = (s, d, 90) := by unfold Jour.write; rw [if_pos hdown]
    rw [hw]
    rw [hdown] at c2
    go_enter Try.func15, Try.ntmps15
    go_wp2_with fail
    go_ret
    exact ⟨rfl, STAY.out⟩
  have hdf : s.down = false := by cases hh : s.down with
    | true => exact absurd hh hdown
    | false => rfl
  rw [hdf] at c2
  by_cases hlong : 262144 < m
  · have hw : s.write d data = (s, d, 2) := by unfold Jour.write; rw [if_neg hdown, if_pos (by rw [← hm]; exact hlong)]
    rw [hw]
    have hlong' : (262144 : Int) < m := by omega
    go_enter Try.func15, Try.ntmps15
    go_wp2_with fail
    go_ret
    exact ⟨rfl, STAY.out⟩
  clear STAY
  have hjl := hj.len
  have hcl := jcells_last g (.slice adr nr capr) s
  have hjb := hj.blk
  obtain ⟨last, hlast⟩ : ∃ last, last = s.last := ⟨_, rfl⟩
  rw [← hlast] at hjl hcl
  have hsh : (m : Int) ≤ 262144 := by omega
  have HJ := Lib.hid (And.intro hs (And.intro hj (And.intro hsep (And.intro hx hxn))))
  have hran : ∀ W : World, Blk W j (jcells g (.slice adr nr capr) s) 78 → W.cell? ⟨j, 0, none⟩ = some (.pointer (some ⟨g, 0, none⟩)) ∧ W.rangeAt j 2 (last.map vb) := by
    intro W hb
    refine ⟨by rw [hb.cell, jcells, Array.append_assoc, Array.getElem?_append_left (by simp)]; rfl, fun i u hu => ?_⟩
    obtain ⟨hi, rfl⟩ := List.getElem?_eq_some_iff.1 hu
    rw [List.length_map] at hi
    rw [hb.cell, hcl i hi]; simp [List.getD_eq_getElem?_getD, List.getElem?_eq_getElem hi]
  have hk0 := hran w.drew hjb
  have hu := Try.uid
  have hsz : (Try.prog.info? 29).map (·.size) = some (last.map vb).length := by rw [Try.sid, List.length_map, hjl]
  have HR := Lib.hid hran
  have HLEN := Lib.hid hlen
  have HW := Lib.hid (And.intro hdown (And.intro hlong (And.intro hm (And.intro hlast hjl))))
  clear hran hdown hlong hm hcl hs hj hsep hx hxn hlast hdf hlen
  have HB := Lib.hid hjb
  clear hjb
  go_enter Try.func15, Try.ntmps15
  go_wp2_with fail
  have HJL := Lib.hid hjl
  clear hjl
  go_region_held3 (fun w' : World => w'.cell? ⟨j, 0, none⟩ = some (.pointer (some ⟨g, 0, none⟩)) ∧ w'.rangeAt j 2 (last.map vb)) (first | exact hk0 | exact hk1 | exact hk2 | exact hk3) (first
    | (go_at_call 35
       refine (jfront_calls last data _ _ HJL.out (HJ.out.2.2.2.1.grown0 (grown_drew w none)) (by have := HW.out.2.2.1; omega)).mono ?_
       rintro e1 W1 ⟨v1, rfl, hr1, hg1⟩
       have hk1 := HR.out W1 (HB.out.kept (grown_trans (grown_drew w none) hg1) (by simp)))
    | (refine step_append rfl _ _ _ rfl w.heap.size 5 (.int .u8 0) Try.ubytes Try.iu8 rfl v1 _ ((frontS last data).map vb) (data.map vb) rfl rfl hr1 ((HJ.out.2.2.2.1.grown0 (grown_drew w none)).grown0 hg1).src ?_ ?_ ?_ ?_
       · intro u hu; obtain ⟨b, _, rfl⟩ := List.mem_map.1 hu; rfl
       · have := HW.out.2.2.1; rw [List.length_map, List.length_map, frontS_length]; omega
       · exact hg1.size
       intro v2 W2 hr2 hg2 hn2
       have hG2 : w.grownBy W2 none := grown_new (grown_trans (grown_drew w none) hg1) hg2 (fun k hk => (hr1.lt k hk).1)
       have hk2 := HR.out W2 (HB.out.kept hG2 (by simp)))
    | (go_at_call 16
       have hb2 : BytesAt W2 v2 (recB last data) := Row.bytes (base := w.heap.size) (e := 5) (by unfold recB; rw [List.map_append]; exact hr2)
       have hS2 : Try.SlabAt W2 g v d := HJ.out.1.same (R := fun _ => True) (Same.of_grown hG2 (fun _ _ => by simp)) (fun _ _ => trivial)
       refine (sappend_calls g v d v2 (recB last data) (by have := HW.out.2.2.1; rw [recB_length]; omega) W2 hS2 hb2 (fun _ e => by have := (hr2.lt g e).1; have := HJ.out.1.blk.lt; omega)).mono ?_
       rintro e3 W3 ⟨rfl, v3, hS3, hN3, hf3⟩
       have hjr : ∀ k, JFoot j (.slice adr nr capr) es k → k ≠ g ∧ v.ownBlock ≠ some k := fun k hk => ⟨fun e => HJ.out.2.2.1 k (.inl e) hk, fun e => HJ.out.2.2.1 k (.inr e) hk⟩
       have hk3 := HR.out W3 ((hN3.blk (HB.out.kept hG2 (by simp)) (hjr j (.inl rfl))))))
  have hN : Same (fun k => ¬ SFoot g v k) w W3 := (Same.of_grown hG2 (fun _ _ => by simp)).trans (hN3.mono (fun k hk => ⟨fun e => hk (.inl e), fun e => hk (.inr e)⟩))
  have hf : ∀ k, SFoot g v3 k → SFoot g v k ∨ w.heap.size ≤ k := fun k hk => by
    rcases hk with rfl | hk
    · exact .inl (.inl rfl)
    · rcases hf3 k hk with h | h
      · exact .inl (.inr h)
      · exact .inr (Nat.le_trans hG2.size h)
  have hjf : ∀ k, JFoot j (.slice adr nr capr) es k → ¬ SFoot g v k := fun k hk h => HJ.out.2.2.1 k h hk
  have hJ3 : Try.JourAt W3 j g (.slice adr nr capr) es s := HJ.out.2.1.same hN hjf
  have hsep3 : ∀ k, SFoot g v3 k → ¬ JFoot j (.slice adr nr capr) es k := fun k hk h => by
    rcases hf k hk with h' | h'
    · exact hjf k h h'
    · have := HJ.out.2.1.lt k h; omega
  have hM : Try.Mid j g v (.slice adr nr capr) es s w W3 v3 (d.append (recB last data)).1 := ⟨hS3, hJ3, hN, hf, hsep3, hjf⟩
  clear hk0 hk1 hk2 hk3 hr1 hr2 hg1 hg2 hn2 hb2 hS2 hN3 hf3 hjr hN hf hjf hJ3 hsep3 hS3 c0 c1 c2 hG2
  have hwr := HW.out
  have hlast : last = s.last := hwr.2.2.2.1
  have hwrite : ∀ r, d.append (recB last data) = r → s.write d data = (if r.2 ≠ 0 then ({ s with down := decide (r.2 = 90) }, r.1, r.2)
      else if r.1.sync.2 ≠ 0 then ({ s with down := decide (r.1.sync.2 = 90) }, r.1.sync.1, r.1.sync.2) else (s.more data, r.1.sync.1, 0)) := by
    rintro r rfl
    unfold Jour.write
    rw [if_neg hwr.1, if_neg (by rw [← hwr.2.2.1]; exact hwr.2.1), ← hlast]
  clear hwr hlast
  rcases append_cases d (recB last data) with hc | hc | hc
  · have hw := hwrite _ hc
    rw [if_pos (by simp)] at hw
    rw [hc] at hM ⊢
    simp only [] at hM ⊢
    have HM := Lib.hid (And.intro hM hw)
    obtain ⟨k0, k1, k2, k3⟩ := hM.cells
    have f34 := k3 34
    clear hc hwrite hw k3 hM
    go_wp2_with fail
    refine bodyPost_ret (results_tmp rfl _ _ _) rfl ?_
    rw [HM.out.2]
    exact ⟨rfl, HM.out.1.down _ _⟩
  · have hw := hwrite _ hc
    rw [if_pos (by simp)] at hw
    rw [hc] at hM ⊢
    simp only [] at hM ⊢
    have HM := Lib.hid (And.intro hM hw)
    obtain ⟨k0, k1, k2, k3⟩ := hM.cells
    have f34 := k3 34
    clear hc hwrite hw k3 hM
    go_wp2_with fail
    refine bodyPost_ret (results_tmp rfl _ _ _) rfl ?_
    rw [HM.out.2]
    exact ⟨rfl, HM.out.1.down _ _⟩
  · have hw := hwrite _ hc
    rw [if_neg (by simp)] at hw
    rw [hc] at hM ⊢
    simp only [] at hM ⊢
    obtain ⟨d1, hd1⟩ : ∃ d1 : Disk, d1 = { d.step with bytes := d.bytes ++ recB last data } := ⟨_, rfl⟩
    rw [← hd1] at hM hw
    obtain ⟨k0, k1, k2, k3⟩ := hM.cells
    have f34 := k3 34
    have HD := Lib.hid hd1
    clear hc hwrite k3 hd1
    by_cases hs0 : d1.sync.2 = 0
    · rw [if_neg (by simp [hs0])] at hw
      have HM := Lib.hid (And.intro hM (And.intro hw hs0))
      clear hM hw hs0
      go_wp2_with fail
      refine (ssync_calls g v3 d1 W3 HM.out.1.slab).mono ?_
      rintro e4 W4 ⟨rfl, hS4, hg4, hz4⟩
      have hM4 := HM.out.1.sync hS4 hg4
      have hs0 := HM.out.2.2
      rw [hs0]
      have HM4 := Lib.hid (And.intro hM4 HM.out.2.1)
      obtain ⟨q0, q1, q2, q3⟩ := hM4.cells
      have fq1 := q3 1
      clear hs0 HM hM4 hS4 hg4 hz4 q3 k0 k1 k2 f34
      go_wp2_with fail
      have hX1 : w.grownBy w none := grown_refl w none
      have hjlt := HM4.out.1.jour.blk.lt
      have gX1 : W4.grownBy (W4.alloc (Obj.cells #[] 5)).drew none := grown_trans (World.grownBy_alloc W4 _ none) (grown_drew _ _)
      have q1' : (W4.alloc (Obj.cells #[] 5)).cell? ⟨j, 1, none⟩ = some (.slice adr nr capr) := cell_grown (World.grownBy_alloc W4 _ none) _ _ q1
      have hrow0 : Row (W4.alloc (Obj.cells #[] 5)).drew W4.heap.size 5 (.slice (some ⟨W4.heap.size, 0, none⟩) 0 0) [] :=
        .inr ⟨W4.heap.size, 0, #[], (0, 0), rfl, Nat.le_refl _, heap_alloc_new W4 _, .inl ⟨rfl, rfl⟩, Nat.le_refl _, Nat.zero_le _, rfl, rfl⟩
      have hxW4 : BytesAt W4 (.slice adx m capx) data := HJ.out.2.2.2.1.kept (fun hl b hb => HM4.out.1.same.block b (by obtain ⟨b', hb', hlt⟩ := HJ.out.2.2.2.1.block hl; rw [hb] at hb'; cases hb'; exact hlt) (HJ.out.2.2.2.2 hl b hb).1)
      have hx1 := (hxW4.grown0 gX1).src
      clear hX1 hxW4
      go_region_law (first
        | (refine step_append rfl _ _ _ rfl W4.heap.size 5 (.int .u8 0) Try.ubytes Try.iu8 rfl (.slice (some ⟨W4.heap.size, 0, none⟩) 0 0) (.slice adx m capx) [] (data.map vb) rfl rfl hrow0 hx1 ?_ ?_ ?_ ?_
           · intro u hu; obtain ⟨b, _, rfl⟩ := List.mem_map.1 hu; rfl
           · have := HW.out.2.2.1; rw [List.length_map]; simp; omega
           · exact gX1.size
           intro u Y1 hru hgu hnu
           rw [List.nil_append] at hru
           obtain ⟨adu, nu, capu, hu⟩ := hru.shape
           subst hu
           have gY1 : W4.grownBy Y1 none := grown_new gX1 hgu (fun k hk => by cases hk; exact Nat.le_refl _)
           have cY1 : Y1.cell? ⟨j, 1, none⟩ = some (.slice adr nr capr) := cell_grown gY1 _ _ q1
           have gZ : W4.grownBy (Y1.alloc (Obj.cells #[.slice adu nu capu] 30)) none := grown_trans gY1 (World.grownBy_alloc Y1 _ none)
           have cZ : (Y1.alloc (Obj.cells #[.slice adu nu capu] 30)).cell? ⟨j, 1, none⟩ = some (.slice adr nr capr) := cell_grown gZ _ _ q1
           have hs2 : SrcAt (Y1.alloc (Obj.cells #[.slice adu nu capu] 30)) (.slice (some ⟨Y1.heap.size, 0, none⟩) 1 1) [.slice adu nu capu] :=
             ⟨_, 1, rfl, fun i u hu => ⟨_, rfl, by rw [add_at, Nat.zero_add, (Blk.new Y1 _ _).cell]; simpa using hu⟩⟩)
        | (refine step_append rfl _ _ _ rfl 0 30 (.slice none 0 0) Try.ulists Try.ibytes rfl (.slice adr nr capr) (.slice (some ⟨Y1.heap.size, 0, none⟩) 1 1) es [.slice adu nu capu] rfl rfl (HM4.out.1.jour.row.grown gZ (.inl rfl)) hs2 ?_ ?_ (Nat.zero_le _) ?_
           · intro u hu; rw [List.mem_singleton.1 hu]; rfl
           · have h1 := HM4.out.1.jour.recs.length; have h2 := HLEN.out; simp only [List.length_singleton]; omega
           intro v5 Y2 hr5 hg5 hn5
           obtain ⟨ad5, n5, cap5, h5⟩ := hr5.shape
           subst h5
           have b5 := (HM4.out.1.jour.blk.kept gZ (by simp)).kept hg5 (fun e => HM4.out.1.jour.ne e.symm)
           have c5 : Y2.cell? ⟨j, 1, none⟩ = some (.slice adr nr capr) := by rw [b5.cell, jcells, Array.append_assoc, Array.getElem?_append_left (by simp)]; rfl
           have f5 := b5.frozen 1)
        | fail)
      all_goals
        have hWr := HM4.out.1.more gY1 hru (World.grownBy_alloc Y1 (Obj.cells #[.slice adu nu capu] 30) none) hr5 hg5 hn5
        obtain ⟨Y3, hY3⟩ : ∃ Y3, Y3 = Y2.setCell ⟨j, 1, none⟩ (.slice ad5 n5 cap5) := ⟨_, rfl⟩
        rw [← hY3] at hWr
        have HWR := Lib.hid hWr
        have bj := hWr.jour.blk
        have hwl : s.write d data = (s.more data, d1.sync.1, 0) := HM4.out.2
        have HWL := Lib.hid hwl
        have xY3 : BytesAt Y3 (.slice adx m capx) data := HJ.out.2.2.2.1.kept (fun hl b hb => hWr.same.block b (by obtain ⟨b', hb', hlt⟩ := HJ.out.2.2.2.1.block hl; rw [hb] at hb'; cases hb'; exact hlt) (HJ.out.2.2.2.2 hl b hb))
        rw [← hY3]
        have HX3 := Lib.hid xY3
        clear gY1 hru hr5 hg5 hn5 cY1 gZ cZ hs2 b5 c5 f5 hWr hwl xY3 hgu hnu hY3 q0 q1 q2 fq1 q1' gX1 hrow0 hx1 hjlt HM4
        go_wp2_with ((with_reducible refine law_load j 2 (last.map vb) _ _ _ ?_ bj ?_ Try.uid ?_ ?_ ?_); rfl; (intro i hi; rw [List.length_map] at hi; rw [HW.out.2.2.2.1] at hi ⊢; rw [jcells_last g _ { s with records := s.records ++ [data] } i hi]; simp [List.getD_eq_getElem?_getD, List.getElem?_eq_getElem hi]); rfl; (rw [Try.sid, List.length_map, HJL.out]))
        refine (jlink_calls last data _ _ HJL.out HX3.out (by have := HW.out.2.2.1; omega)).mono ?_
        rintro e6 Y4 ⟨rfl, hg6⟩
        obtain ⟨all, hall⟩ : ∃ all, all = lnk last data := ⟨_, rfl⟩
        rw [← hall]
        have hal : all.length = 32 := by rw [hall]; exact lnk_length _ _
        have HAL := Lib.hid (And.intro hall hal)
        have bj4 := bj.kept hg6 (by simp)
        have HW4 := Lib.hid (HWR.out.step hg6)
        clear hall hal bj HWR HX3 hg6
        go_wp2_with ((with_reducible refine law_store j 2 (all.map vb) _ _ ?_ ?_ bj4 ?_ ?_ ?_ ?_); rfl; rfl; (rw [jcells_size _ _ _ HW4.out.jour.len, List.length_map, HAL.out.2]; omega); (intro v hv; obtain ⟨b, _, rfl⟩ := List.mem_map.1 hv; rfl); (rw [Try.sid, List.length_map, HAL.out.2]))
        intro Y5 hb5 hg5 hz5
        rw [jcells_lay _ _ _ _ HW4.out.jour.len HAL.out.2] at hb5
        have hW5 := HW4.out.put hg5 hb5 rfl HAL.out.2
        have hmore : ({ s with records := s.records ++ [data], last := all } : Jour) = s.more data := by
          unfold Jour.more
          have h1 : s.down = false := by cases hh : s.down with
            | true => exact absurd hh HW.out.1
            | false => rfl
          rw [h1, HAL.out.1, HW.out.2.2.2.1]
        have HF := Lib.hid (And.intro hW5 hmore)
        clear hb5 hg5 hz5 bj4 hmore hW5
        go_wp2_with fail
        refine bodyPost_ret (results_tmp rfl _ _ _) rfl ?_
        rw [HWL.out]
        obtain ⟨hW5, hmore⟩ := HF.out
        rw [hmore] at hW5
        exact ⟨rfl, _, _, _, hW5.slab, hW5.jour, hW5.same, hW5.foot, hW5.jfoot, hW5.sep⟩
    · have hs90 : d1.sync.2 = 90 := by
        unfold Disk.sync at hs0 ⊢; split at hs0
        · rw [if_pos ‹_›]
        · exact absurd rfl hs0
      rw [if_pos hs0, hs90] at hw
      have HM := Lib.hid (And.intro hM (And.intro hw hs90))
      clear hM hw hs0 hs90
      go_wp2_with fail
      refine (ssync_calls g v3 d1 W3 HM.out.1.slab).mono ?_
      rintro e4 W4 ⟨rfl, hS4, hg4, hz4⟩
      have hM4 := HM.out.1.sync hS4 hg4
      have hs90 := HM.out.2.2
      rw [hs90]
      have HM4 := Lib.hid (And.intro hM4 HM.out.2.1)
      obtain ⟨q0, q1, q2, q3⟩ := hM4.cells
      have fq34 := q3 34
      clear hs90 HM hM4 hS4 hg4 hz4 q3 k0 k1 k2 f34
      go_wp2_with fail
      refine bodyPost_ret (results_tmp rfl _ _ _) rfl ?_
      rw [HM4.out.2]
      exact ⟨rfl, HM4.out.1.down _ _⟩
end Go.Proofs.Yteicjpjniaohhaa
