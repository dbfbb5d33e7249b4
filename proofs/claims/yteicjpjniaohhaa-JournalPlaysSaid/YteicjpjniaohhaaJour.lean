/- The journal in memory; Len, Last, At. -/
import Derived.Test.YteicjpjniaohhaaJPlain
namespace Scv
open Go Go.RowKit
theorem Row.bytes {w : World} {base : Nat} {e : TypeId} {v : Value} {l : List UInt8} (h : Row w base e v (l.map vb)) : BytesAt w v l := by
  rcases h with ⟨rfl, he⟩ | ⟨g, cap, cur, fr, rfl, h1, h2, h3, h4, h5, h6, h7⟩
  · have : l = [] := by simpa using he
    subst this
    exact ⟨none, 0, rfl, .inl rfl⟩
  · rw [List.length_map] at h4 h7 ⊢
    refine ⟨_, cap, rfl, .inr ⟨g, 0, rfl, fun i hi => ?_⟩⟩
    have e1 : cur[i]? = some (vb l[i]) := by
      have : (cur.toList.take l.length)[i]? = (l.map vb)[i]? := by rw [h7]
      rw [List.getElem?_take, if_pos hi] at this
      simpa [List.getElem?_eq_getElem hi] using this
    rw [Nat.zero_add]
    simp [World.cell?, h2, e1, byt, List.getD_eq_getElem?_getD, List.getElem?_eq_getElem hi]
/-- values that read as texts, in arrays of their own, of whose blocks N is true -/
def Recs (w : World) (N : Nat → Prop) (E : TypeId) : List Value → List (List UInt8) → Prop
  | [], [] => True
  | e :: es, l :: ls => (Row w 0 E e (l.map vb) ∧ ∀ k, e.ownBlock = some k → N k) ∧ Recs w N E es ls
  | _, _ => False
theorem Recs.imp {w W : World} {N N' : Nat → Prop} {E : TypeId} : ∀ {es : List Value} {ls : List (List UInt8)}, (∀ (e : Value) (l : List UInt8), e ∈ es → (Row w 0 E e (l.map vb) ∧ ∀ k, e.ownBlock = some k → N k) → (Row W 0 E e (l.map vb) ∧ ∀ k, e.ownBlock = some k → N' k)) → Recs w N E es ls → Recs W N' E es ls
  | [], [], _, _ => trivial
  | e :: es, l :: ls, h, hh => ⟨h e l (by simp) hh.1, Recs.imp (fun e l he => h e l (List.mem_cons_of_mem _ he)) hh.2⟩
  | [], _ :: _, _, hh => hh.elim
  | _ :: _, [], _, hh => hh.elim
theorem Recs.append {w : World} {N : Nat → Prop} {E : TypeId} : ∀ {es : List Value} {ls : List (List UInt8)} {fs : List Value} {ms : List (List UInt8)}, Recs w N E es ls → Recs w N E fs ms → Recs w N E (es ++ fs) (ls ++ ms)
  | [], [], _, _, _, k => k
  | _ :: _, _ :: _, _, _, hh, k => ⟨hh.1, Recs.append hh.2 k⟩
  | [], _ :: _, _, _, hh, _ => hh.elim
  | _ :: _, [], _, _, hh, _ => hh.elim
theorem Recs.length {w : World} {N : Nat → Prop} {E : TypeId} : ∀ {es : List Value} {ls : List (List UInt8)}, Recs w N E es ls → es.length = ls.length
  | [], [], _ => rfl
  | _ :: _, _ :: _, hh => by simp [Recs.length hh.2]
  | [], _ :: _, hh => hh.elim
  | _ :: _, [], hh => hh.elim
theorem Recs.get {w : World} {N : Nat → Prop} {E : TypeId} : ∀ {es : List Value} {ls : List (List UInt8)}, Recs w N E es ls → ∀ i, i < ls.length → Row w 0 E (es.getD i undef) ((ls.getD i []).map vb)
  | [], [], _, i, hi => by simp at hi
  | _ :: _, _ :: _, hh, 0, _ => hh.1.1
  | _ :: es, _ :: ls, hh, i + 1, hi => by
    have := Recs.get hh.2 i (by simpa using hi)
    simpa using this
  | [], _ :: _, hh, _, _ => hh.elim
  | _ :: _, [], hh, _, _ => hh.elim
theorem Recs.mem {w : World} {N : Nat → Prop} {E : TypeId} : ∀ {es : List Value} {ls : List (List UInt8)}, Recs w N E es ls → ∀ e ∈ es, (∃ l : List UInt8, Row w 0 E e (l.map vb)) ∧ ∀ k, e.ownBlock = some k → N k
  | [], [], _, e, he => by simp at he
  | e' :: es, l :: ls, hh, e, he => by
    rcases List.mem_cons.1 he with rfl | he
    · exact ⟨⟨l, hh.1.1⟩, hh.1.2⟩
    · exact Recs.mem hh.2 e he
  | [], _ :: _, hh, _, _ => hh.elim
  | _ :: _, [], hh, _, _ => hh.elim
theorem Recs.one {w : World} {N : Nat → Prop} {E : TypeId} {es : List Value} {ls : List (List UInt8)} (h : Recs w N E es ls) : ∀ e ∈ es, e.oneCell' = true := fun e he => by
  obtain ⟨⟨l, hr⟩, _⟩ := h.mem e he
  exact hr.one
/-- the cells of a journal's struct -/
def jcells (g : Nat) (rv : Value) (s : Jour) : Array Value := (#[.pointer (some ⟨g, 0, none⟩), rv] ++ u8s s.last ++ #[.bool s.down])
/-- a journal at a block j, upon a slab at g; its records are the slice rv of the slices es -/
structure JourAt (TJ TB E : TypeId) (w : World) (j g : Nat) (rv : Value) (es : List Value) (s : Jour) : Prop where
  blk : Blk w j (jcells g rv s) TJ
  row : Row w 0 TB rv es
  recs : Recs w (fun k => k ≠ j ∧ rv.ownBlock ≠ some k) E es s.records
  len : s.last.length = 32
  ne : rv.ownBlock ≠ some j
/-- the blocks of a journal -/
def JFoot (j : Nat) (rv : Value) (es : List Value) (k : Nat) : Prop := k = j ∨ rv.ownBlock = some k ∨ ∃ e ∈ es, e.ownBlock = some k
/-- the blocks of a slab -/
def SFoot (g : Nat) (v : Value) (k : Nat) : Prop := k = g ∨ v.ownBlock = some k
theorem Row.same {w W : World} {R : Nat → Prop} {base : Nat} {e : TypeId} {v : Value} {xs : List Value} (h : Row w base e v xs) (hs : Same R w W) (hr : ∀ k, v.ownBlock = some k → R k) : Row W base e v xs :=
  h.kept fun g hg => hs.block g (h.lt g hg).2 (hr g hg)
theorem SlabAt.same {T E : TypeId} {w W : World} {R : Nat → Prop} {g : Nat} {v : Value} {d : Disk} (h : SlabAt T E w g v d) (hs : Same R w W) (hr : ∀ k, SFoot g v k → R k) : SlabAt T E W g v d :=
  ⟨hs.blk h.blk (hr g (.inl rfl)), h.row.same hs (fun k hk => hr k (.inr hk)), h.ne, h.ok⟩
theorem JourAt.same {TJ TB E : TypeId} {w W : World} {R : Nat → Prop} {j g : Nat} {rv : Value} {es : List Value} {s : Jour} (h : JourAt TJ TB E w j g rv es s) (hs : Same R w W) (hr : ∀ k, JFoot j rv es k → R k) : JourAt TJ TB E W j g rv es s :=
  ⟨hs.blk h.blk (hr j (.inl rfl)), h.row.same hs (fun k hk => hr k (.inr (.inl hk))), h.recs.imp (fun e _ he hh => ⟨hh.1.same hs (fun k hk => hr k (.inr (.inr ⟨e, he, hk⟩))), hh.2⟩), h.len, h.ne⟩
theorem SlabAt.lt {T E : TypeId} {w : World} {g : Nat} {v : Value} {d : Disk} (h : SlabAt T E w g v d) (k : Nat) (hk : SFoot g v k) : k < w.heap.size := by
  rcases hk with rfl | hk
  · exact h.blk.lt
  · exact (h.row.lt k hk).2
theorem JourAt.lt {TJ TB E : TypeId} {w : World} {j g : Nat} {rv : Value} {es : List Value} {s : Jour} (h : JourAt TJ TB E w j g rv es s) (k : Nat) (hk : JFoot j rv es k) : k < w.heap.size := by
  rcases hk with rfl | hk | ⟨e, he, hk⟩
  · exact h.blk.lt
  · exact (h.row.lt k hk).2
  · obtain ⟨⟨l, hr⟩, _⟩ := h.recs.mem e he
    exact (hr.lt k hk).2
theorem jcells_size (g : Nat) (rv : Value) (s : Jour) (hl : s.last.length = 32) : (jcells g rv s).size = 35 := by
  simp [jcells, u8s, hl]
theorem jcells_last (g : Nat) (rv : Value) (s : Jour) (i : Nat) (h : i < s.last.length) : (jcells g rv s)[2 + i]? = some (vb (s.last.getD i 0)) := by
  unfold jcells
  rw [Array.append_assoc, Array.getElem?_append_right (by simp), Array.getElem?_append_left (by simp [u8s]; omega)]
  simp [u8s, vb, List.getElem?_eq_getElem h, List.getD_eq_getElem?_getD]
theorem jcells_down (g : Nat) (rv : Value) (s : Jour) (hl : s.last.length = 32) : (jcells g rv s)[34]? = some (.bool s.down) := by
  unfold jcells
  rw [Array.getElem?_append_right (by simp [u8s, hl])]
  simp [u8s, hl]
theorem jour_cells {TJ TB E : TypeId} {w : World} {j g : Nat} {rv : Value} {es : List Value} {s : Jour} (h : JourAt TJ TB E w j g rv es s) :
    w.cell? ⟨j, 0, none⟩ = some (.pointer (some ⟨g, 0, none⟩)) ∧ w.cell? ⟨j, 1, none⟩ = some rv ∧ w.cell? ⟨j, 34, none⟩ = some (.bool s.down) ∧ BytesAt w (.slice (some ⟨j, 2, none⟩) 32 32) s.last := by
  refine ⟨?_, ?_, ?_, h.blk.part h.len.symm (fun i hi => jcells_last g rv s i hi)⟩
  · rw [h.blk.cell, jcells, Array.append_assoc, Array.getElem?_append_left (by simp)]; rfl
  · rw [h.blk.cell, jcells, Array.append_assoc, Array.getElem?_append_left (by simp)]; rfl
  · rw [h.blk.cell]; exact jcells_down g rv s h.len
end Scv
namespace Go.Proofs.Yteicjpjniaohhaa
open Go.RowKit Go.Shelf Scv
abbrev Try.JourAt := Scv.JourAt 78 30 5
theorem Try.sjour : (Try.prog.info? 78).map (·.size) = some 35 := by kernel_rfl
theorem jlen_calls (j g : Nat) (rv : Value) (es : List Value) (s : Jour) (w : World) (h : Try.JourAt w j g rv es s) :
    Calls Try.prog 13 #[.pointer (some ⟨j, 0, none⟩)] w fun e w' => e = .returned (.int .i64 (s.records.length : Int)) ∧ w = w' := by
  obtain ⟨c0, c1, c2, _⟩ := jour_cells h
  have hl := h.recs.length
  obtain ⟨ad, n, cap, hv⟩ := h.row.shape
  have hn : n = s.records.length := by
    have := h.row; rw [hv] at this; rw [← hl]; exact this.len.1
  rw [hv] at c1
  have HN := Lib.hid hn
  clear hv hn hl c0 c2
  go_enter Try.func13, Try.ntmps13
  go_wp2_with fail
  go_ret
  exact ⟨ret_int (by rw [HN.out]), rfl⟩
theorem jlast_calls (j g : Nat) (rv : Value) (es : List Value) (s : Jour) (w : World) (h : Try.JourAt w j g rv es s) :
    Calls Try.prog 14 #[.pointer (some ⟨j, 0, none⟩)] w fun e w' => e = .returned (.agg (u8s s.last)) ∧ w.grownBy w' none := by
  have hlen := h.len
  have hcl := jcells_last g rv s
  obtain ⟨last, hlast⟩ : ∃ last, last = s.last := ⟨_, rfl⟩
  rw [← hlast] at hlen hcl
  rw [← hlast]
  have HC := Lib.hid (And.intro hcl (And.intro hlen hlast))
  clear hcl hlen hlast
  go_enter Try.func14, Try.ntmps14
  go_wp2_with (with_reducible apply law_alloc _ Try.zid)
  intro W1 hb1 hg1 hz1
  obtain ⟨g1, hg1'⟩ : ∃ g, g = w.heap.size := ⟨_, rfl⟩
  rw [← hg1'] at hb1 hz1
  rw [← hg1']
  replace hb1 : Blk W1 g1 (u8s (List.replicate 32 0)) 29 := hb1
  have hj1 := h.blk.kept hg1 (by simp)
  have HG := Lib.hid (And.intro hg1' hz1)
  clear hg1' hz1
  go_wp2_with (first | ((with_reducible refine law_load j 2 (last.map vb) _ _ _ ?_ hj1 ?_ Try.uid ?_ ?_ ?_); rfl; (intro i hi; rw [List.length_map] at hi; rw [HC.out.1 i hi]; simp [List.getD_eq_getElem?_getD, List.getElem?_eq_getElem hi]); rfl; (rw [Try.sid, List.length_map, HC.out.2.1])) |
    ((with_reducible refine law_store g1 0 (last.map vb) _ _ ?_ ?_ hb1 ?_ ?_ ?_ ?_); rfl; rfl; (rw [u8s_size, List.length_map, HC.out.2.1, List.length_replicate]; omega); (intro v hv; obtain ⟨b, _, rfl⟩ := List.mem_map.1 hv; rfl); (rw [Try.sid, List.length_map, HC.out.2.1])))
  intro W2 hb2 hg2 hz2
  rw [lay_whole _ _ (by rw [u8s_size, List.length_map, HC.out.2.1, List.length_replicate])] at hb2
  clear hz2
  go_wp2_with fail
  refine bodyPost_ret (results_cell_row rfl _ _ g1 29 _ _ _ rfl hb2 Try.uid rfl (by rw [Try.sid]; simp [HC.out.2.1])) rfl ?_
  exact ⟨rfl, grown_new hg1 hg2 (fun g hg => by cases hg; have := HG.out; omega)⟩
theorem jat_no (j g : Nat) (rv : Value) (es : List Value) (s : Jour) (i : Int) (w : World) (h : Try.JourAt w j g rv es s) (hi : i < 0 ∨ s.records.length ≤ i) :
    Calls Try.prog 20 #[.pointer (some ⟨j, 0, none⟩), .int .i64 i] w fun e w' => e = .returned (.tuple #[.slice none 0 0, .int .i64 4]) ∧ w = w' := by
  obtain ⟨c0, c1, c2, _⟩ := jour_cells h
  have hl := h.recs.length
  obtain ⟨ad, n, cap, hv⟩ := h.row.shape
  have hn : n = s.records.length := by
    have := h.row; rw [hv] at this; rw [← hl]; exact this.len.1
  rw [hv] at c1
  rw [← hn] at hi
  clear hv hn hl c0 c2
  go_enter Try.func20, Try.ntmps20
  by_cases h0 : i < 0
  · go_wp2_with fail
    go_ret2
    exact ⟨rfl, rfl⟩
  · have h1 : (n : Int) ≤ i := by omega
    go_wp2_with fail
    go_ret2
    exact ⟨rfl, rfl⟩
set_option maxRecDepth 100000 in
theorem jat_calls (j g : Nat) (rv : Value) (es : List Value) (s : Jour) (i : Nat) (w : World) (h : Try.JourAt w j g rv es s) (hi : i < s.records.length) (hlen : (s.records.getD i []).length < 1099511627776) :
    Calls Try.prog 20 #[.pointer (some ⟨j, 0, none⟩), .int .i64 (i : Int)] w fun e w' => ∃ u, e = .returned (.tuple #[u, .int .i64 0]) ∧ Row w' w.heap.size 5 u ((s.records.getD i []).map vb) ∧ w.grownBy w' none := by
  obtain ⟨c0, c1, c2, _⟩ := jour_cells h
  have hl := h.recs.length
  have hrow := h.recs.get i hi
  rcases h.row with ⟨_, he⟩ | ⟨gb, cap, cur, fr, hvv, _, hblk, hfr, hnc, hcm, hcs, htake⟩
  · exfalso; rw [he] at hl; simp at hl; rw [← hl] at hi; omega
  · rw [hvv] at c1
    obtain ⟨n, hn⟩ : ∃ n, n = es.length := ⟨_, rfl⟩
    rw [← hn] at c1 hl
    rw [← hl] at hi
    obtain ⟨e, he⟩ : ∃ e, e = es.getD i undef := ⟨_, rfl⟩
    rw [← he] at hrow
    obtain ⟨r, hr⟩ : ∃ r, r = s.records.getD i [] := ⟨_, rfl⟩
    rw [← hr] at hrow hlen
    rw [← hr]
    have hcell : w.cell? ⟨gb, i, none⟩ = some e := by
      have hie : i < es.length := by omega
      have : cur[i]? = some es[i] := by
        have : (cur.toList.take es.length)[i]? = es[i]? := by rw [htake]
        rw [List.getElem?_take, if_pos hie] at this
        simpa [List.getElem?_eq_getElem hie] using this
      simp [World.cell?, hblk, this, he, List.getD_eq_getElem?_getD, List.getElem?_eq_getElem hie]
    have hni : (i : Int) < n := by omega
    have hni' : ¬ n ≤ i := by omega
    have hone := hrow.one
    have HX := Lib.hid (And.intro hl (And.intro hvv (And.intro hn (And.intro he hr))))
    clear hl hvv hn he hr c0 c2 htake hcs hfr
    obtain ⟨ad, en, ecap, hev⟩ := hrow.shape
    subst hev
    go_enter Try.func20, Try.ntmps20
    go_wp2_with ((with_reducible refine law_bslice0 5 Try.ubytes Try.su8 ?_))
    intro v1 W1 hr1 hg1 ho1
    have k1 := cell_grown hg1 _ _ c1
    have k2 := cell_grown hg1 _ _ hcell
    have hrow1 := (hrow.grown hg1 (.inl rfl)).src
    go_wp2_with ((with_reducible refine law_append w.heap.size 5 (.int .u8 0) Try.ubytes Try.iu8 rfl v1 (.slice ad en ecap) [] (r.map vb) ?_ ?_ hr1 hrow1 ?_ ?_ ?_ ?_); rfl; rfl; (intro u hu; obtain ⟨b, _, rfl⟩ := List.mem_map.1 hu; rfl); (simp; omega); exact hg1.size)
    intro v2 W2 hr2 hg2 hn2
    go_wp2_with fail
    refine bodyPost_ret (results_tmp2 rfl _ _ _) rfl ?_
    exact ⟨v2, rfl, hr2, grown_new hg1 hg2 (fun g hg => by rw [ho1] at hg; cases hg; exact Nat.le_refl _)⟩
end Go.Proofs.Yteicjpjniaohhaa
