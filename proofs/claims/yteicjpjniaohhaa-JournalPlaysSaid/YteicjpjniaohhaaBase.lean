/- What all walks here import; how bytes and words lie in memory. -/
import Derived.WalkKit
import Derived.WalkSpells
import Derived.WalkLawsBesides
import Derived.Lib.Hide
import Derived.Deep.QuietTactic
import Derived.BigQuiet
import Derived.BigGuardPart
import Derived.StillTailTactics
import Derived.Deep.LoopGhost
import Derived.Deep.Light
import Derived.Deep.DeepCutAuto
import Derived.Deep.DeepFit
import Derived.Laws.CopyOwn
import Derived.Deep.MidRow
import Derived.Laws.AppendOwnNone
import Derived.Lib.SlBytesConst
import Derived.Test.YteicjpjniaohhaaNums
import Derived.Test.YteicjpjniaohhaaKeys
import Derived.Test.YteicjpjniaohhaaShaEv
namespace Scv
open Go Go.RowKit
/-- a byte in memory -/
abbrev vb (b : UInt8) : Value := .int .u8 (b.toNat : Int)
/-- a word in memory -/
abbrev vw (n : Nat) : Value := .int .u32 (n : Int)
def u8s (l : List UInt8) : Array Value := (l.map vb).toArray
def u32s (l : List Nat) : Array Value := (l.map vw).toArray
theorem u8s_size (l : List UInt8) : (u8s l).size = l.length := by simp [u8s]
theorem u32s_size (l : List Nat) : (u32s l).size = l.length := by simp [u32s]
theorem u32s_get (l : List Nat) (i : Nat) (h : i < l.length) : (u32s l)[i]? = some (.int .u32 (l.getD i 0 : Nat)) := by
  simp [u32s, List.getElem?_eq_getElem h, List.getD_eq_getElem?_getD]
theorem u8s_get (l : List UInt8) (i : Nat) (h : i < l.length) : (u8s l)[i]? = some (.int .u8 ((l.getD i 0).toNat : Int)) := by
  simp [u8s, List.getElem?_eq_getElem h, List.getD_eq_getElem?_getD]
theorem u32s_set (l : List Nat) (i n : Nat) : (u32s l).setIfInBounds i (.int .u32 (n : Int)) = u32s (l.set i n) := by
  simp [u32s, List.map_set]
theorem u8s_set (l : List UInt8) (i : Nat) (b : UInt8) : (u8s l).setIfInBounds i (.int .u8 (b.toNat : Int)) = u8s (l.set i b) := by
  simp [u8s, List.map_set]
/-- a whole block of cells, none of them frozen -/
def Blk (w : World) (g : Nat) (cs : Array Value) (t : TypeId) : Prop := w.heap[g]? = some (.cells cs t (0, 0))
theorem Blk.lt {w : World} {g : Nat} {cs : Array Value} {t : TypeId} (h : Blk w g cs t) : g < w.heap.size := (Array.getElem?_eq_some_iff.1 h).1
theorem Blk.cell {w : World} {g : Nat} {cs : Array Value} {t : TypeId} (h : Blk w g cs t) (i : Nat) : w.cell? ⟨g, i, none⟩ = cs[i]? := by
  simp [World.cell?, show w.heap[g]? = _ from h]
theorem Blk.frozen {w : World} {g : Nat} {cs : Array Value} {t : TypeId} (h : Blk w g cs t) (i : Nat) : w.frozen? ⟨g, i, none⟩ = false := by
  simp [World.frozen?, show w.heap[g]? = _ from h]
theorem Blk.kept {w w' : World} {g : Nat} {cs : Array Value} {t : TypeId} {row : Option Nat} (h : Blk w g cs t) (hg : w.grownBy w' row) (hr : some g ≠ row) : Blk w' g cs t :=
  (hg.block g h.lt hr).trans h
theorem Blk.new (w : World) (cs : Array Value) (t : TypeId) : Blk (w.alloc (.cells cs t)) w.heap.size cs t := heap_alloc_new w _
theorem Blk.alloc {w : World} {g : Nat} {cs : Array Value} {t : TypeId} (h : Blk w g cs t) (o : Obj) : Blk (w.alloc o) g cs t := h.kept (World.grownBy_alloc w o none) (by simp)
theorem Blk.set {w : World} {g : Nat} {cs : Array Value} {t : TypeId} (h : Blk w g cs t) (i : Nat) (v : Value) : Blk (w.setCell ⟨g, i, none⟩ v) g (cs.setIfInBounds i v) t := by
  obtain ⟨hlt, hk⟩ := Array.getElem?_eq_some_iff.1 h
  show (w.heap.modify g _)[g]? = _
  rw [Array.getElem?_eq_getElem (by rw [Array.size_modify]; exact hlt), Array.getElem_modify_self, hk]
  rfl
theorem grown_set (w : World) (b i : Nat) (v : Value) : w.grownBy (w.setCell ⟨b, i, none⟩ v) (some b) :=
  ⟨rfl, rfl, rfl, by show w.heap.size ≤ (w.heap.modify _ _).size; rw [Array.size_modify]; exact Nat.le_refl _, fun k _ hk => Below.heap_setCell _ _ _ k (fun e => hk (by rw [e]))⟩
theorem grown_trans {a b c : World} {r : Option Nat} (h : a.grownBy b r) (k : b.grownBy c r) : a.grownBy c r :=
  ⟨k.os.trans h.os, k.tape.trans h.tape, k.output.trans h.output, Nat.le_trans h.size k.size, fun j hj hn => (k.block j (Nat.lt_of_lt_of_le hj h.size) hn).trans (h.block j hj hn)⟩
theorem grown_drew (a : World) (r : Option Nat) : a.grownBy a.drew r := ⟨rfl, rfl, rfl, Nat.le_refl _, fun _ _ _ => rfl⟩
theorem grown_drewN (a : World) (n : Nat) (r : Option Nat) : a.grownBy (a.drewN n) r := ⟨rfl, rfl, rfl, Nat.le_refl _, fun _ _ _ => rfl⟩
theorem grown_weak {a b : World} (r : Option Nat) (h : a.grownBy b none) : a.grownBy b r := ⟨h.os, h.tape, h.output, h.size, fun j hj _ => h.block j hj (by simp)⟩
end Scv
namespace Scv
open Go Go.RowKit
/-- an operation whose run is known -/
theorem wpList_val {P : Program} {ops : Array Oper} {Q : Exit → Act → World → Prop} {a : Act} {w : World} {rest : List Oper} {o : Oper} (hg : o.guard = none) {v : Value} {w' : World}
    (h : (execOp a.eval o).run P w = .ok (.value v) w') (k : wpList P ops Q rest (a.put o.dst v) w') : wpList P ops Q (o :: rest) a w :=
  wpList_plain hg fun K hK => by unfold Oper.wp; rw [h]; exact hK _ _ k
theorem wpList_skip {P : Program} {ops : Array Oper} {Q : Exit → Act → World → Prop} {a : Act} {w : World} {rest : List Oper} {o : Oper} (hg : o.guard = none) {w' : World}
    (h : (execOp a.eval o).run P w = .ok .skip w') (k : wpList P ops Q rest (a.put o.dst undef) w') : wpList P ops Q (o :: rest) a w :=
  wpList_plain hg fun K hK => by unfold Oper.wp; rw [h]; exact hK _ _ k
end Scv

/-! ### Laws of single operations, over worlds of which only facts are known -/
namespace Scv
open Go Go.RowKit
section
variable {P : Program} {ops : Array Oper} {Q : Exit → Act → World → Prop} {a : Act} {w : World} {rest : List Oper} {dst : Option Tmp} {ty0 : TypeId} {pos : String} {after : Array Edge}

/-- the cells of a row with some laid from a place on -/
def lay (old : Array Value) (o : Nat) (cs : List Value) : Array Value := (old.toList.take o ++ cs ++ old.toList.drop (o + cs.length)).toArray
theorem lay_whole (old : Array Value) (cs : List Value) (h : cs.length = old.size) : lay old 0 cs = cs.toArray := by
  unfold lay; rw [List.drop_eq_nil_of_le (by simp; omega)]; simp
theorem lay_size (old : Array Value) (o : Nat) (cs : List Value) (h : o + cs.length ≤ old.size) : (lay old o cs).size = old.size := by
  unfold lay; simp; omega
theorem lay_get_in (old : Array Value) (o : Nat) (cs : List Value) (i : Nat) (ho : o ≤ old.size) (h : i < cs.length) : (lay old o cs)[o + i]? = cs[i]? := by
  unfold lay
  simp only [List.getElem?_toArray]
  have e : o + i - (List.take o old.toList).length = i := by simp; omega
  rw [List.append_assoc, List.getElem?_append_right (by simp; omega), e, List.getElem?_append_left h]
theorem lay_get_out (old : Array Value) (o : Nat) (cs : List Value) (i : Nat) (ho : o + cs.length ≤ old.size) (h : i < o ∨ o + cs.length ≤ i) : (lay old o cs)[i]? = old[i]? := by
  unfold lay
  simp only [List.getElem?_toArray]
  rcases h with h | h
  · rw [List.append_assoc, List.getElem?_append_left (by simp; omega), List.getElem?_take_of_lt h]; simp
  · rw [List.getElem?_append_right (by simp; omega), List.getElem?_drop]
    have e : o + cs.length + (i - (List.take o old.toList ++ cs).length) = i := by simp; omega
    rw [e]; simp

theorem run_store_row (g o : Nat) (cs : List Value) (cur : Array Value) (t ty : TypeId) (hg : Blk w g cur t) (hle : o + cs.length ≤ cur.size) (h1 : ∀ v ∈ cs, v.oneCell' = true)
    (hi : (P.info? ty).map (·.size) = some cs.length) : (storeVar ty ⟨g, o, none⟩ (.agg cs.toArray)).run P w = .ok () (w.setRow g (lay cur o cs)) := by
  have := run_storeCells_at (P := P) g o t cs 0 cur w hg (by omega) h1
  cases hq : P.info? ty with
  | none => simp [hq] at hi
  | some i =>
    have hs : cs.length = i.size := by simp [hq] at hi; omega
    simp only [Nat.add_zero] at this
    simp [storeVar, Go.sizeOf, typeInfo, hq, Value.cells, hs, this, lay]
theorem grown_setRow (w : World) (g : Nat) (cs : Array Value) : w.grownBy (w.setRow g cs) (some g) :=
  ⟨rfl, rfl, rfl, by simp, fun k _ hk => setRow_other w g k cs (fun e => hk (by rw [e]))⟩

/-- a whole row of cells is stored into the middle of a block -/
theorem law_store {ty : TypeId} {x y : Operand} (g o : Nat) (cs : List Value) (cur : Array Value) (t : TypeId) (hx : a.eval x = .pointer (some ⟨g, o, none⟩)) (hy : a.eval y = .agg cs.toArray) (hg : Blk w g cur t)
    (hle : o + cs.length ≤ cur.size) (h1 : ∀ v ∈ cs, v.oneCell' = true) (hi : (P.info? ty).map (·.size) = some cs.length)
    (k : ∀ W, Blk W g (lay cur o cs) t → w.grownBy W (some g) → W.heap.size = w.heap.size → wpList P ops Q rest (a.put dst undef) W) :
    wpList P ops Q ({ dst, op := .store ty x y, type := ty0, pos, after, guard := none } :: rest) a w :=
  wpList_skip rfl (w' := w.setRow g (lay cur o cs)) (by
    unfold execOp
    simp only [hx, hy, Instr.storeAt, Instr.sureAddr, Sem.run_bind, Sem.run_pure, Result.andThen_ok, run_store_row g o cs cur t ty hg hle h1 hi])
    (k _ (setRow_heap w g cur _ t _ hg) (grown_setRow w g _) (by simp))
/-- one cell is stored -/
theorem law_store1 {ty : TypeId} {x y : Operand} (g o : Nat) (v : Value) (cur : Array Value) (t : TypeId) (hx : a.eval x = .pointer (some ⟨g, o, none⟩)) (hy : a.eval y = v) (hg : Blk w g cur t)
    (hle : o < cur.size) (h1 : v.oneCell' = true) (hi : (P.info? ty).map (·.size) = some 1)
    (k : ∀ W, Blk W g (cur.setIfInBounds o v) t → w.grownBy W (some g) → W.heap.size = w.heap.size → wpList P ops Q rest (a.put dst undef) W) :
    wpList P ops Q ({ dst, op := .store ty x y, type := ty0, pos, after, guard := none } :: rest) a w := by
  have hc : v.cells = #[v] := by cases v <;> first | rfl | (simp [Value.oneCell'] at h1)
  have hcell : w.cell? ⟨g, o, none⟩ = some cur[o] := by rw [hg.cell]; exact Array.getElem?_eq_getElem hle
  refine wpList_skip rfl (w' := w.setCell ⟨g, o, none⟩ v) ?_ (k _ (hg.set o v) (grown_set w g o v) (by show (w.heap.modify _ _).size = _; rw [Array.size_modify]))
  unfold execOp
  cases hq : P.info? ty with
  | none => simp [hq] at hi
  | some i =>
    have hs : i.size = 1 := by simpa [hq] using hi
    have hst : (storeCells ⟨g, o, none⟩ [v]).run P w = .ok () (w.setCell ⟨g, o, none⟩ v) := by
      cases v <;> first | (simp [Value.oneCell'] at h1; done) | (simp [storeCells, store, Sem.run, hcell, hg.frozen, Addr.add, Sem.bind, bind, pure])
    simp only [hx, hy, Instr.storeAt, Instr.sureAddr, Sem.run_bind, Sem.run_pure, Result.andThen_ok]
    simp [storeVar, Go.sizeOf, typeInfo, hq, hc, hs, hst]
/-- a row of cells is loaded from the middle of a block -/
theorem law_load {ty : TypeId} {x : Operand} (g o : Nat) (cs : List Value) (cur : Array Value) (t : TypeId) (d : TypeDesc) (hx : a.eval x = .pointer (some ⟨g, o, none⟩)) (hg : Blk w g cur t)
    (hc : ∀ i, i < cs.length → cur[o + i]? = cs[i]?) (hu : P.underlying ty = some d) (hd : d.isRow = true) (hi : (P.info? ty).map (·.size) = some cs.length)
    (k : wpList P ops Q rest (a.put dst (.agg cs.toArray)) w) :
    wpList P ops Q ({ dst, op := .load ty x, type := ty0, pos, after, guard := none } :: rest) a w :=
  wpList_val rfl (by
    have hr := run_loadAt_mid (P := P) w g o ty cs d (fun j v hv => by
      have hj : j < cs.length := by
        rcases Nat.lt_or_ge j cs.length with h | h
        · exact h
        · rw [List.getElem?_eq_none h] at hv; cases hv
      rw [hg.cell, hc j hj, hv]) hu hd hi
    unfold execOp
    simp only [hx, Sem.run_bind, hr, Result.andThen_ok]; rfl) k
/-- a whole block is loaded -/
theorem law_loadw {ty : TypeId} {x : Operand} (g : Nat) (cur : Array Value) (t : TypeId) (d : TypeDesc) (hx : a.eval x = .pointer (some ⟨g, 0, none⟩)) (hg : Blk w g cur t)
    (hu : P.underlying ty = some d) (hd : d.isRow = true) (hi : (P.info? ty).map (·.size) = some cur.size)
    (k : wpList P ops Q rest (a.put dst (.agg cur)) w) :
    wpList P ops Q ({ dst, op := .load ty x, type := ty0, pos, after, guard := none } :: rest) a w :=
  law_load g 0 cur.toList cur t d hx hg (fun i _ => by simp) hu hd (by simpa using hi) (by simpa using k)
/-- one cell is loaded -/
theorem law_load1 {ty : TypeId} {x : Operand} (g o : Nat) (v : Value) (cur : Array Value) (t : TypeId) (d : TypeDesc) (hx : a.eval x = .pointer (some ⟨g, o, none⟩)) (hg : Blk w g cur t)
    (hc : cur[o]? = some v) (hu : P.underlying ty = some d) (hd : d.isRow = false)
    (k : wpList P ops Q rest (a.put dst v) w) :
    wpList P ops Q ({ dst, op := .load ty x, type := ty0, pos, after, guard := none } :: rest) a w :=
  wpList_val rfl (by
    have hcell : w.cell? ⟨g, o, none⟩ = some v := by rw [hg.cell]; exact hc
    have hagg : (isAgg ty).run P w = .ok false w := by
      unfold isAgg
      rw [Sem.run_bind, run_underlying hu w]
      cases d <;> simp_all [TypeDesc.isRow]
    unfold execOp
    simp only [hx, Instr.loadAt, Instr.sureAddr, Sem.run_bind, Sem.run_pure, Result.andThen_ok]
    simp [loadVar, Sem.run_bind, hagg, load, Sem.run, hcell]) k
/-- a new variable -/
theorem law_alloc {ty : TypeId} (z : Value) (hz : (P.info? ty).map (·.zero) = some (some z))
    (k : ∀ W, Blk W w.heap.size z.cells ty → w.grownBy W none → W.heap.size = w.heap.size + 1 → wpList P ops Q rest (a.put dst (.pointer (some ⟨w.heap.size, 0, none⟩))) W) :
    wpList P ops Q ({ dst, op := .alloc ty, type := ty0, pos, after, guard := none } :: rest) a w :=
  wpList_val rfl (w' := w.alloc (.cells z.cells ty)) (by
    unfold execOp
    cases hq : P.info? ty with
    | none => simp [hq] at hz
    | some i =>
      have hs : i.zero = some z := by simpa [hq] using hz
      simp [Instr.alloc, zeroValue, typeInfo, hq, hs, newVar, newRow, newObj]
      rfl) (k _ (Blk.new w _ _) (World.grownBy_alloc w _ none) (by simp))
/-- a value in a new variable -/
theorem law_box {ty : TypeId} {x : Operand} (v : Value) (hx : a.eval x = v)
    (k : ∀ W, Blk W w.heap.size v.cells ty → w.grownBy W none → W.heap.size = w.heap.size + 1 → wpList P ops Q rest (a.put dst (.pointer (some ⟨w.heap.size, 0, none⟩))) W) :
    wpList P ops Q ({ dst, op := .box ty x, type := ty0, pos, after, guard := none } :: rest) a w :=
  wpList_val rfl (w' := w.alloc (.cells v.cells ty)) (by
    unfold execOp
    simp [hx, Instr.box, newVar, newRow, newObj, Sem.run, Sem.bind, bind, pure]) (k _ (Blk.new w _ _) (World.grownBy_alloc w _ none) (by simp))
/-- copy from a row into a block -/
theorem law_copy {dT sT elem : TypeId} {x y : Operand} (g o dl dc : Nat) (a2 : Addr) (sl sc : Nat) (cur : Array Value) (t : TypeId) (cs : List Value) (hx : a.eval x = .slice (some ⟨g, o, none⟩) dl dc) (hy : a.eval y = .slice (some a2) sl sc)
    (hu : P.underlying dT = some (.slice elem)) (hs : (P.info? elem).map (·.size) = some 1) (hg : Blk w g cur t) (hn : cs.length = Nat.min sl dl)
    (hsrc : ∀ j v, cs[j]? = some v → w.cell? (a2.add j) = some v) (hfit : o + cs.length ≤ cur.size) (h1 : ∀ v ∈ cs, v.oneCell' = true)
    (k : ∀ W, Blk W g (lay cur o cs) t → w.grownBy W (some g) → W.heap.size = w.heap.size → wpList P ops Q rest (a.put dst (goInt cs.length)) W) :
    wpList P ops Q ({ dst, op := .call { callee := .builtin .copy, args := #[x, y], argTypes := #[dT, sT] }, type := ty0, pos, after, guard := none } :: rest) a w :=
  wpList_val rfl (w' := w.setRow g (lay cur o cs)) (by
    have hr := run_copy_row (P := P) w dT sT ty0 elem g o dl dc a2 sl sc cur t cs hu hs hg hn hsrc hfit h1
    rw [BigFrame.execOp_builtin, BigFrame.builtin_copy]
    simp only [List.map_toArray, List.map_cons, List.map_nil, hx, hy, Sem.run_bind, hr, Result.andThen_ok]; rfl)
    (k _ (setRow_heap w g cur _ t _ hg) (grown_setRow w g _) (by simp))
/-- a struct or an array out of its parts -/
theorem law_build {ty : TypeId} {parts : Array (Nat × Operand)} (vs : List (Nat × Value)) (cells : Array Value) (hp : parts.toList.map (fun p => (p.1, a.eval p.2)) = vs) (h : P.built ty vs = some cells)
    (k : wpList P ops Q rest (a.put dst (.agg cells)) w) :
    wpList P ops Q ({ dst, op := .build ty parts, type := ty0, pos, after, guard := none } :: rest) a w :=
  wpList_val rfl (by
    have e : (parts.map fun (i, x) => (i, a.eval x)).toList = vs := by rw [← hp, Array.toList_map]
    unfold execOp
    simp only []
    rw [Sem.run_bind, run_build w ty _ cells (by rw [e]; exact h)]; rfl) k
end
/-- what is written to new blocks alone has changed nothing that was there -/
theorem grown_new {w a b : World} {r : Option Nat} (h : w.grownBy a none) (k : a.grownBy b r) (hr : ∀ g, r = some g → w.heap.size ≤ g) : w.grownBy b none :=
  ⟨k.os.trans h.os, k.tape.trans h.tape, k.output.trans h.output, Nat.le_trans h.size k.size, fun j hj _ =>
    (k.block j (Nat.lt_of_lt_of_le hj h.size) (fun e => by have := hr j e.symm; omega)).trans (h.block j hj (by simp))⟩
theorem grown_refl (w : World) (r : Option Nat) : w.grownBy w r := ⟨rfl, rfl, rfl, Nat.le_refl _, fun _ _ _ => rfl⟩
theorem Blk.drew {w : World} {g : Nat} {cs : Array Value} {t : TypeId} (h : Blk w g cs t) : Blk w.drew g cs t := h
theorem byt_lt (b : List UInt8) (i : Nat) : byt b i < 256 := (b.getD i 0).toNat_lt
theorem Blk.byte {w : World} {g : Nat} {b : List UInt8} {t : TypeId} (h : Blk w g (u8s b) t) (i : Nat) (hi : i < b.length) : w.cell? ⟨g, i, none⟩ = some (.int .u8 (byt b i : Int)) := by
  rw [h.cell, u8s_get b i hi]; rfl
theorem Blk.word {w : World} {g : Nat} {l : List Nat} {t : TypeId} (h : Blk w g (u32s l) t) (i : Nat) (hi : i < l.length) : w.cell? ⟨g, i, none⟩ = some (.int .u32 (l.getD i 0 : Nat)) := by
  rw [h.cell, u32s_get l i hi]
theorem quiet_eq {P : Program} {f : FuncId} {args : Array Value} {w : World} {n : Nat} {v : Value}
    (h : Calls P f args (w.drewN n) fun e w' => e = .returned v ∧ w.drewN n = w') : Calls P f args (w.drewN n) fun e w'' => e = .returned v ∧ ∃ m, w'' = w.drewN m :=
  h.mono fun _ _ ⟨he, hm⟩ => ⟨he, n, hm.symm⟩
theorem Blk.drewN {w : World} {g : Nat} {cs : Array Value} {t : TypeId} (h : Blk w g cs t) (n : Nat) : Blk (w.drewN n) g cs t := h
/-- the eight words of a state -/
theorem st_cells {W : World} {g : Nat} {v : St} {T : TypeId} (h : Blk W g (u32s v.list) T) :
    W.cell? ⟨g, 0, none⟩ = some (.int .u32 (v.a : Int)) ∧ W.cell? ⟨g, 1, none⟩ = some (.int .u32 (v.b : Int)) ∧ W.cell? ⟨g, 2, none⟩ = some (.int .u32 (v.c : Int)) ∧ W.cell? ⟨g, 3, none⟩ = some (.int .u32 (v.d : Int)) ∧
    W.cell? ⟨g, 4, none⟩ = some (.int .u32 (v.e : Int)) ∧ W.cell? ⟨g, 5, none⟩ = some (.int .u32 (v.f : Int)) ∧ W.cell? ⟨g, 6, none⟩ = some (.int .u32 (v.g : Int)) ∧ W.cell? ⟨g, 7, none⟩ = some (.int .u32 (v.h : Int)) := by
  simp only [h.cell]
  exact ⟨rfl, rfl, rfl, rfl, rfl, rfl, rfl, rfl⟩
end Scv
