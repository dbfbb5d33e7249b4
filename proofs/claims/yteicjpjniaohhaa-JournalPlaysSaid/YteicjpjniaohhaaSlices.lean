/- Slices that the call itself has made: append, and what is in them. -/
import Derived.Test.YteicjpjniaohhaaOf
import Derived.Great.BuildSlice
import Derived.Laws.IdiomStrings
import Derived.Laws.BytesString
set_option linter.unusedVariables false
set_option linter.unusedSimpArgs false
namespace Scv
open Go Go.RowKit
/-- a slice that reads as these cells (one cell each) -/
def SrcAt (w : World) (v : Value) (news : List Value) : Prop :=
  ∃ (ad : Option Addr) (c : Nat), v = .slice ad news.length c ∧ (∀ j u, news[j]? = some u → ∃ p, ad = some p ∧ w.cell? (p.add j) = some u)
theorem add_at (b o j : Nat) : (⟨b, o, none⟩ : Addr).add j = ⟨b, o + j, none⟩ := by unfold Addr.add; split <;> simp_all
theorem BytesAt.src {w : World} {v : Value} {l : List UInt8} (h : BytesAt w v l) : SrcAt w v (l.map vb) := by
  obtain ⟨ad, cap, hv, hc⟩ := h
  refine ⟨ad, cap, by rw [List.length_map]; exact hv, fun j u hu => ?_⟩
  obtain ⟨hj, rfl⟩ := List.getElem?_eq_some_iff.1 hu
  rw [List.length_map] at hj
  rcases hc with rfl | ⟨b, o, ha, hi⟩
  · simp at hj
  · refine ⟨_, ha, ?_⟩
    rw [add_at, hi j hj]
    simp [byt, List.getD_eq_getElem?_getD, List.getElem?_eq_getElem hj]
/-- a slice of the call's own, from its array's begin; the cells of the array may be written -/
def Row (w : World) (base : Nat) (e : TypeId) (v : Value) (xs : List Value) : Prop :=
  (v = .slice none 0 0 ∧ xs = []) ∨ ∃ (g cap : Nat) (cur : Array Value) (fr : Nat × Nat), v = .slice (some ⟨g, 0, none⟩) xs.length cap ∧ base ≤ g ∧ w.heap[g]? = some (.cells cur e fr) ∧
    ((fr.1 = 0 ∧ fr.2 = 0) ∨ cur.size ≤ fr.1) ∧ xs.length ≤ cap ∧ cap ≤ maxLen ∧ cur.size = cap ∧ cur.toList.take xs.length = xs
theorem Row.nil (w : World) (base : Nat) (e : TypeId) : Row w base e (.slice none 0 0) [] := .inl ⟨rfl, rfl⟩
theorem Row.kept {w W : World} {base : Nat} {e : TypeId} {v : Value} {xs : List Value} (h : Row w base e v xs) (hb : ∀ g, v.ownBlock = some g → W.heap[g]? = w.heap[g]?) : Row W base e v xs := by
  rcases h with h | ⟨g, cap, cur, fr, rfl, h1, h2, h3⟩
  · exact .inl h
  · exact .inr ⟨g, cap, cur, fr, rfl, h1, (hb g rfl).trans h2, h3⟩
theorem Row.grown {w W : World} {base : Nat} {e : TypeId} {v : Value} {xs : List Value} {r : Option Nat} (h : Row w base e v xs) (hg : w.grownBy W r) (hr : r = none ∨ v.ownBlock ≠ r) : Row W base e v xs := by
  refine h.kept fun g hv => ?_
  rcases h with ⟨rfl, _⟩ | ⟨g', cap, cur, fr, rfl, h1, h2, h3⟩
  · cases hv
  · cases hv
    refine hg.block g' (Array.getElem?_eq_some_iff.1 h2).1 ?_
    rcases hr with rfl | hr
    · simp
    · exact hr
theorem Row.lt {w : World} {base : Nat} {e : TypeId} {v : Value} {xs : List Value} (h : Row w base e v xs) (g : Nat) (hg : v.ownBlock = some g) : base ≤ g ∧ g < w.heap.size := by
  rcases h with ⟨rfl, _⟩ | ⟨g', cap, cur, fr, rfl, h1, h2, h3⟩
  · cases hg
  · cases hg; exact ⟨h1, (Array.getElem?_eq_some_iff.1 h2).1⟩
theorem Row.src {w : World} {base : Nat} {e : TypeId} {v : Value} {xs : List Value} (h : Row w base e v xs) : SrcAt w v xs := by
  rcases h with ⟨rfl, rfl⟩ | ⟨g, cap, cur, fr, rfl, h1, h2, h3, h4, h5, h6, h7⟩
  · exact ⟨none, 0, rfl, fun j u hu => by simp at hu⟩
  · refine ⟨_, cap, rfl, fun j u hu => ⟨_, rfl, ?_⟩⟩
    rw [add_at, Nat.zero_add]
    have hj : j < xs.length := (List.getElem?_eq_some_iff.1 hu).1
    have e1 : cur[j]? = xs[j]? := by
      rw [← h7, List.getElem?_take, if_pos hj]; simp
    simp [World.cell?, h2, e1, hu]
theorem cells_one (v : Value) (h : v.oneCell' = true) : v.cells = #[v] := by cases v <;> first | rfl | cases h
theorem Row.one {w : World} {base : Nat} {e : TypeId} {v : Value} {xs : List Value} (h : Row w base e v xs) : v.oneCell' = true := by
  rcases h with ⟨rfl, _⟩ | ⟨g, cap, cur, fr, rfl, _⟩ <;> rfl
theorem BytesAt.one {w : World} {v : Value} {l : List UInt8} (h : BytesAt w v l) : v.oneCell' = true := by
  obtain ⟨ad, cap, rfl, _⟩ := h; rfl
/-- cells are stored in a block -/
theorem run_store_cells {P : Program} (g o : Nat) (t : TypeId) (fr : Nat × Nat) : ∀ (vs : List Value) (i : Nat) (cur : Array Value) (w : World), w.heap[g]? = some (.cells cur t fr) → ((fr.1 = 0 ∧ fr.2 = 0) ∨ cur.size ≤ fr.1) →
    o + i + vs.length ≤ cur.size → (∀ v ∈ vs, v.oneCell' = true) →
    ∃ W, (storeCells ⟨g, o, none⟩ vs i).run P w = .ok () W ∧ W.heap[g]? = some (.cells (cur.toList.take (o + i) ++ vs ++ cur.toList.drop (o + i + vs.length)).toArray t fr) ∧ w.grownBy W (some g) ∧ W.heap.size = w.heap.size
  | [], i, cur, w, hg, _, _, _ => ⟨w, rfl, by simp [hg], grown_refl w _, rfl⟩
  | v :: rest, i, cur, w, hg, hfr, hl, h1 => by
    have hi : o + i < cur.size := by simp at hl; omega
    have hcell : w.cell? ⟨g, o + i, none⟩ = some cur[o + i] := by simp [World.cell?, hg, Array.getElem?_eq_getElem hi]
    have hfz : w.frozen? ⟨g, o + i, none⟩ = false := by
      simp only [World.frozen?, hg]
      rcases hfr with ⟨h, h'⟩ | h
      · simp [h, h']
      · simp; omega
    have hv := h1 v (by simp)
    have hset : (w.setCell ⟨g, o + i, none⟩ v).heap[g]? = some (.cells (cur.setIfInBounds (o + i) v) t fr) := by
      obtain ⟨hlt, hk⟩ := Array.getElem?_eq_some_iff.1 hg
      show (w.heap.modify g _)[g]? = _
      rw [Array.getElem?_eq_getElem (by rw [Array.size_modify]; exact hlt), Array.getElem_modify_self, hk]
      rfl
    obtain ⟨W, hr, hh, hgr, hz⟩ := run_store_cells (P := P) g o t fr rest (i + 1) (cur.setIfInBounds (o + i) v) (w.setCell ⟨g, o + i, none⟩ v) hset (by simpa using hfr) (by simp at hl ⊢; omega) (fun u hu => h1 u (List.mem_cons_of_mem _ hu))
    refine ⟨W, ?_, ?_, grown_trans (grown_set w g (o + i) v) hgr, by rw [hz]; show (w.heap.modify _ _).size = _; rw [Array.size_modify]⟩
    · rw [← hr]
      have hst : (store ((⟨g, o, none⟩ : Addr).add i) v).run P w = .ok () (w.setCell ⟨g, o + i, none⟩ v) := by
        rw [add_at]
        cases v <;> first | (simp [Value.oneCell'] at hv; done) | (simp [store, Sem.run, hcell, hfz, Sem.bind, bind, pure])
      simp only [storeCells, Sem.run_bind, hst, Result.andThen_ok]
    · rw [hh]
      congr 3
      have e := list_seg_step cur.toList (o + i) v rest (by simp at hl ⊢; omega)
      simpa [Array.toList_setIfInBounds, Nat.add_assoc] using e
theorem zeroCells_one (z : Array Value) (n : Nat) (h : z.size = 1) : (Builtin.zeroCells z n).size = n := by simp [Builtin.zeroCells, h]
/-- append onto a slice of the call's own: in its room, or in a new array -/
theorem run_append_row {P : Program} {w : World} (base : Nat) (t ty e : TypeId) (i : TypeInfo) (z : Value) (ht : P.underlying t = some (.slice e)) (hi : P.info? e = some i) (hz : i.zero = some z)
    (hsize : i.size = 1) (hby : i.bytes ≤ 128) (hzs : z.cells.size = 1) (v y : Value) (xs news : List Value) (hown : Row w base e v xs) (hs : SrcAt w y news) (h1 : ∀ u ∈ news, u.oneCell' = true)
    (hlen : xs.length + news.length ≤ 1099511627776) (hbase : base ≤ w.heap.size) :
    ∃ v' W, (Builtin.append_ #[t, t] ty #[v, y]).run P w = .ok v' W ∧ Row W base e v' (xs ++ news) ∧ w.grownBy W v.ownBlock ∧ (∀ g, v'.ownBlock = some g → v.ownBlock = some g ∨ w.heap.size ≤ g) := by
  obtain ⟨ad, c, rfl, hc⟩ := hs
  cases ad with
  | none =>
    have hn : news = [] := by
      cases news with
      | nil => rfl
      | cons u r => obtain ⟨p, hp, _⟩ := hc 0 u rfl; cases hp
    subst hn
    refine ⟨v, w, ?_, by simpa using hown, grown_refl w _, fun g hg => .inl hg⟩
    rcases hown with ⟨rfl, h0⟩ | ⟨g, cap, cur, fr, rfl, _, _, _, hnc, _⟩
    · simp [Builtin.append_, run_underlying ht, Go.sizeOf, typeInfo, hi, Builtin.lenOf, Builtin.firstCells]
    · simp [Builtin.append_, run_underlying ht, Go.sizeOf, typeInfo, hi, Builtin.lenOf, Builtin.firstCells, hnc, storeCells]
  | some p =>
    have hnews : ∀ j u, news[j]? = some u → w.cell? (p.add j) = some u := fun j u hu => by
      obtain ⟨p', hp, hcell⟩ := hc j u hu
      cases hp; exact hcell
    have hl : news.length = news.length * i.size := by rw [hsize, Nat.mul_one]
    have hfit : ∀ n, n ≤ xs.length + news.length → n * i.bytes ≤ 140737488355328 := fun n hn => Nat.le_trans (Nat.mul_le_mul (Nat.le_trans hn hlen) hby) (by omega)
    have made : ∀ (old : Nat), w.drew.heap = w.heap →
        Row (w.drew.alloc (.cells (xs.toArray ++ news.toArray ++ Builtin.zeroCells z.cells (grownCap w (xs.length + news.length) old e - (xs.length + news.length))) e)) base e
          (.slice (some ⟨w.heap.size, 0, none⟩) (xs.length + news.length) (grownCap w (xs.length + news.length) old e)) (xs ++ news) := by
      intro old _
      have hge := grownCap_ge w (xs.length + news.length) old e
      have hcm : grownCap w (xs.length + news.length) old e ≤ maxLen := grownCap_le_maxLen w _ old e (by unfold maxLen; omega)
      refine .inr ⟨w.heap.size, _, _, (0, 0), by rw [List.length_append], hbase, heap_alloc_new w.drew _, .inl ⟨rfl, rfl⟩, by rw [List.length_append]; exact hge, hcm, ?_, ?_⟩
      · simp only [Array.size_append, List.size_toArray, zeroCells_one _ _ hzs]; omega
      · simp only [Array.toList_append]
        exact List.take_left
    rcases hown with ⟨rfl, rfl⟩ | ⟨g, cap, cur, fr, rfl, hbg, hg, hfr, hnc, hcm, hcs, htake⟩
    · by_cases hm : news.length = 0
      · have hn : news = [] := List.eq_nil_of_length_eq_zero hm
        subst hn
        refine ⟨.slice none 0 0, w, ?_, Row.nil w base e, grown_refl w _, fun g hg => .inl hg⟩
        simp [Builtin.append_, run_underlying ht, Go.sizeOf, typeInfo, hi, Builtin.lenOf, Builtin.firstCells, loadCells, loadCellsFrom]
      · have hr := run_append_nil (P := P) w t ty e i z ht hi hz p news.length c news hl hnews (by omega) (by simp at hlen; omega) (by have := hfit news.length (by omega); omega)
        have hm := made 0 rfl
        simp only [List.length_nil, Nat.zero_add, List.nil_append, Array.empty_append] at hm ⊢
        exact ⟨_, _, hr, hm, ⟨rfl, rfl, rfl, by simp, fun k hk _ => heap_alloc_old w.drew _ k hk⟩, fun g hg => by cases hg; exact .inr (Nat.le_refl _)⟩
    · by_cases hroom : xs.length + news.length ≤ cap
      · obtain ⟨W, hst, hh, hgr, hz'⟩ := run_store_cells (P := P) g xs.length e fr news 0 cur w hg hfr (by omega) h1
        have hf := run_firstCells_some (P := P) w i.size news.length p news.length c news hl hnews
        refine ⟨.slice (some ⟨g, 0, none⟩) (xs.length + news.length) cap, W, ?_, .inr ⟨g, cap, _, fr, by rw [List.length_append], hbg, hh, ?_, by rw [List.length_append]; exact hroom, hcm, ?_, ?_⟩, hgr, fun g hg => .inl hg⟩
        · rw [hsize] at hf
          simp [Builtin.append_, run_underlying ht, Go.sizeOf, typeInfo, hi, hsize, Builtin.lenOf, hroom, add_at, hst, hf]
        · simp; omega
        · simp; omega
        · rw [Nat.add_zero, htake]
          exact List.take_left
      · have holds : ∀ j u, xs[j]? = some u → w.cell? ((⟨g, 0, none⟩ : Addr).add j) = some u := by
          intro j u hu
          have hj : j < xs.length := (List.getElem?_eq_some_iff.1 hu).1
          rw [add_at, Nat.zero_add]
          have e1 : cur[j]? = xs[j]? := by
            rw [← htake, List.getElem?_take, if_pos hj]; simp
          simp [World.cell?, hg, e1, hu]
        have hr := run_append_grow (P := P) w t ty e i z ht hi hz ⟨g, 0, none⟩ xs.length cap xs (by rw [hsize, Nat.mul_one]) holds p news.length c news hl hnews (by omega) (by omega) (growslice_fits (by omega) (hfit _ (Nat.le_refl _)))
        exact ⟨_, _, hr, made cap rfl, ⟨rfl, rfl, rfl, by simp, fun k hk _ => heap_alloc_old w.drew _ k hk⟩, fun g hg => by cases hg; exact .inr (Nat.le_refl _)⟩
section
variable {P : Program} {ops : Array Oper} {Q : Exit → Act → World → Prop} {a : Act} {w : World} {rest : List Oper} {dst : Option Tmp} {ty0 : TypeId} {pos : String} {after : Array Edge}
theorem law_append {s x : Operand} {t : TypeId} (base : Nat) (e : TypeId) (z : Value) (ht : P.underlying t = some (.slice e)) (hi : (P.info? e).map (fun i => (i.size, decide (i.bytes ≤ 128), i.zero)) = some (1, true, some z))
    (hzs : z.cells.size = 1) (v y : Value) (xs news : List Value) (hx : a.eval s = v) (hy : a.eval x = y) (hown : Row w base e v xs) (hs : SrcAt w y news) (h1 : ∀ u ∈ news, u.oneCell' = true)
    (hlen : xs.length + news.length ≤ 1099511627776) (hbase : base ≤ w.heap.size)
    (k : ∀ v' W, Row W base e v' (xs ++ news) → w.grownBy W v.ownBlock → (∀ g, v'.ownBlock = some g → v.ownBlock = some g ∨ w.heap.size ≤ g) → wpList P ops Q rest (a.put dst v') W) :
    wpList P ops Q ({ dst, op := .call { callee := .builtin .append, args := #[s, x], argTypes := #[t, t] }, type := ty0, pos, after, guard := none } :: rest) a w := by
  cases hq : P.info? e with
  | none => simp [hq] at hi
  | some i =>
    simp only [hq, Option.map_some, Option.some.injEq, Prod.mk.injEq, decide_eq_true_eq] at hi
    obtain ⟨v', w', h2, h3, h4, h5⟩ := run_append_row base t ty0 e i z ht hq hi.2.2 hi.1 hi.2.1 hzs v y xs news hown hs h1 hlen hbase
    refine wpList_val rfl (v := v') (w' := w') ?_ (k v' w' h3 h4 h5)
    unfold execOp
    simp only [resolve, invoke, builtin, Sem.run_bind, Sem.run_pure, Result.andThen_ok, List.map_toArray, List.map_cons, List.map_nil, hx, hy, h2]
/-- a slice literal of elements of one cell -/
theorem law_bslice {t : TypeId} {len : Nat} {parts : Array (Nat × Operand)} (e : TypeId) (es : List Value) (ht : P.underlying t = some (.slice e)) (hi : (P.info? e).map (fun i => (i.size, i.zero.isSome)) = some (1, true))
    (hpos : 0 < len) (hlen : es.length = len) (hle : len ≤ 16777216) (h1 : ∀ v ∈ es, v.oneCell' = true) (hp : parts.toList.map (fun p => (p.1, a.eval p.2)) = (es.zipIdx 0).map fun x => (x.2, x.1))
    (k : ∀ W, Blk W w.heap.size es.toArray e → w.grownBy W none → W.heap.size = w.heap.size + 1 → wpList P ops Q rest (a.put dst (.slice (some ⟨w.heap.size, 0, none⟩) len len)) W) :
    wpList P ops Q ({ dst, op := .buildSlice t len parts, type := ty0, pos, after, guard := none } :: rest) a w := by
  cases hq : P.info? e with
  | none => simp [hq] at hi
  | some i =>
    simp only [hq, Option.map_some, Option.some.injEq, Prod.mk.injEq] at hi
    obtain ⟨z, hz⟩ := Option.isSome_iff_exists.1 hi.2
    have ee : (parts.map fun (i, x) => (i, a.eval x)).toList = (es.zipIdx 0).map fun x => (x.2, x.1) := by rw [← hp, Array.toList_map]
    refine wpList_val rfl (w' := w.alloc (.cells es.toArray e)) ?_ (k _ (Blk.new w _ _) (World.grownBy_alloc w _ none) (by simp))
    unfold execOp
    simp only []
    rw [Sem.run_bind, run_buildSlice w t e len _ es.toArray i z ht hq hz (by rw [hi.1]; omega) (by rw [hi.1]; omega) (by rw [ee, hi.1]; exact Great.fill_flat _ _ (fun v hv => cells_one v (h1 v hv)) (by simp [hlen]))]
    rfl
/-- an empty slice literal -/
theorem law_bslice0 {t : TypeId} (e : TypeId) (ht : P.underlying t = some (.slice e)) (hi : (P.info? e).map (·.size) = some 1)
    (k : ∀ v W, Row W w.heap.size e v [] → w.grownBy W none → v.ownBlock = some w.heap.size → wpList P ops Q rest (a.put dst v) W) :
    wpList P ops Q ({ dst, op := .buildSlice t 0 #[], type := ty0, pos, after, guard := none } :: rest) a w := by
  cases hq : P.info? e with
  | none => simp [hq] at hi
  | some i =>
    refine wpList_val rfl (v := .slice (some ⟨w.heap.size, 0, none⟩) 0 0) (w' := w.alloc (.cells #[] e)) ?_
      (k _ _ (.inr ⟨w.heap.size, 0, #[], (0, 0), rfl, Nat.le_refl _, heap_alloc_new w _, .inl ⟨rfl, rfl⟩, Nat.le_refl _, Nat.zero_le _, rfl, rfl⟩) (World.grownBy_alloc w _ none) rfl)
    unfold execOp
    have e0 : Array.map (fun _ : Nat => (default : Value)) (Array.range 0) = #[] := by simp
    simp [Instr.buildSlice, run_underlying ht, Go.sizeOf, typeInfo, hq, Instr.fill, newRow]
    first | rfl | (rw [e0]; rfl) | rw [e0]
/-- the bytes of a string, in a new array -/
theorem law_sbytes {src t : TypeId} {x : Operand} (l : List UInt8) (e : TypeId) (hx : a.eval x = .string ⟨l.toArray⟩) (hs : P.underlying src = some .string) (hd : P.underlying t = some (.slice e)) (he : P.underlying e = some (.int .u8)) (hlen : l.length ≤ 1099511627776)
    (k : ∀ v W, Row W w.heap.size e v (l.map vb) → w.grownBy W none → v.ownBlock = some w.heap.size → BytesAt W v l → wpList P ops Q rest (a.put dst v) W) :
    wpList P ops Q ({ dst, op := .convert src t x, type := ty0, pos, after, guard := none } :: rest) a w := by
  have hr := run_bytes_of_string (P := P) w src t e ⟨l.toArray⟩ hs hd he
  obtain ⟨cap, hcap⟩ : ∃ cap, cap = grownCap w (ByteArray.mk l.toArray).size 0 e := ⟨_, rfl⟩
  have hsz : (ByteArray.mk l.toArray).size = l.length := by simp [ByteArray.size]
  have hge := grownCap_ge w (ByteArray.mk l.toArray).size 0 e
  have hcm := grownCap_le_maxLen w (ByteArray.mk l.toArray).size 0 e (by rw [hsz]; unfold maxLen; omega)
  rw [← hcap] at hr hge hcm
  rw [hsz] at hr hge
  obtain ⟨W, hW⟩ : ∃ W, W = w.drew.alloc (.cells (bytesRow ⟨l.toArray⟩ cap) e ((bytesRow ⟨l.toArray⟩ cap).size, (bytesRow ⟨l.toArray⟩ cap).size + 1)) := ⟨_, rfl⟩
  rw [← hW] at hr
  have hbr : (bytesRow ⟨l.toArray⟩ cap) = (l.map vb).toArray ++ Array.replicate (cap - l.length) (.int .u8 0) := by
    unfold bytesRow; rw [hsz]; simp
  have hh : W.heap[w.heap.size]? = some (.cells (bytesRow ⟨l.toArray⟩ cap) e ((bytesRow ⟨l.toArray⟩ cap).size, (bytesRow ⟨l.toArray⟩ cap).size + 1)) := by rw [hW]; exact heap_alloc_new w.drew _
  have hrow : Row W w.heap.size e (.slice (some ⟨w.heap.size, 0, none⟩) l.length cap) (l.map vb) :=
    .inr ⟨w.heap.size, cap, _, _, by rw [List.length_map], Nat.le_refl _, hh, .inr (Nat.le_refl _), by rw [List.length_map]; exact hge, hcm, by rw [hbr]; simp; omega, by rw [hbr]; simp⟩
  refine wpList_val rfl (v := .slice (some ⟨w.heap.size, 0, none⟩) l.length cap) (w' := W) ?_ (k _ _ hrow ⟨by rw [hW]; rfl, by rw [hW]; rfl, by rw [hW]; rfl, by rw [hW]; simp, fun j hj _ => by rw [hW]; exact heap_alloc_old w.drew _ j hj⟩ rfl ⟨_, cap, rfl, .inr ⟨_, 0, rfl, fun i hi => ?_⟩⟩)
  · unfold execOp
    simp only [hx, Sem.run_bind, hr, Result.andThen_ok]; rfl
  · rw [Nat.zero_add]
    simp only [World.cell?, hh, hbr]
    rw [Array.getElem?_append_left (by simpa using hi)]
    simp [byt, List.getD_eq_getElem?_getD, List.getElem?_eq_getElem hi]
/-- a string out of bytes -/
theorem law_bstring {src t : TypeId} {x : Operand} (v : Value) (l : List UInt8) (e : TypeId) (hx : a.eval x = v) (hb : BytesAt w v l) (hs : P.underlying src = some (.slice e)) (he : P.underlying e = some (.int .u8)) (hd : P.underlying t = some .string)
    (k : wpList P ops Q rest (a.put dst (.string ⟨l.toArray⟩)) w) :
    wpList P ops Q ({ dst, op := .convert src t x, type := ty0, pos, after, guard := none } :: rest) a w := by
  have hr : (convert src t v).run P w = .ok (.string ⟨l.toArray⟩) w := by
    obtain ⟨ad, cap, rfl, rfl | ⟨b, o, rfl, hc⟩⟩ := hb
    · rw [List.length_nil, run_convert_bytes_string w src t e ad 0 cap hs he hd]
      cases ad <;> simp [Conv.bytesToString, loadCells]
      all_goals rfl
    · refine run_convert_bytes_back w src t e ⟨b, o, none⟩ cap l hs he hd (fun j hj => ?_)
      rw [add_at, hc j hj]
      simp [byt, List.getD_eq_getElem?_getD, List.getElem?_eq_getElem hj]
  refine wpList_val rfl ?_ k
  unfold execOp
  simp only [hx, Sem.run_bind, hr, Result.andThen_ok]; rfl
end
end Scv
