/- The laws of single operations once more, for the walk that goes through rounds of a range over a function. -/
import Derived.RangeFuncNested
import Derived.RangeFuncLeaves
import Derived.Shelf.Abstract
import Derived.Shelf.RegionOpen
import Derived.OwnWalkIn
import Derived.TacticsInMore
import Derived.LoopNIn
import Derived.LoopIn
import Derived.Test.YteicjpjniaohhaaBase
namespace Scv
open Go Go.RowKit
section
variable {F : Fence} {n : Nat} {P : Program} {ops : Array Oper} {Q : Exit → Act → World → Prop} {a : Act} {w : World} {rest : List Oper} {dst : Option Tmp} {ty0 : TypeId} {pos : String} {after : Array Edge}
theorem semAt_plain (r : Option Nat) (ρ : Operand → Value) (o : Oper) (h : ∀ c, o.op ≠ .defer c) : o.semAt r ρ = execOp ρ o := by
  cases r with
  | none => rfl
  | some l => exact Oper.semAt_some l ρ o h
theorem inl_val {o : Oper} (hF : ∀ f, F.fn f) (hg : o.guard = none) (hd : ∀ c, o.op ≠ .defer c) {v : Value} {w' : World} (h : (execOp a.eval o).run P w = .ok (.value v) w')
    (k : wpListIn F n P ops Q rest (a.put o.dst v) w') : wpListIn F n P ops Q (o :: rest) a w :=
  wpListIn_plain hg fun K hK => ⟨fun f _ => hF f, by rw [semAt_plain _ _ _ hd, h]; exact hK _ _ k⟩
theorem inl_skip {o : Oper} (hF : ∀ f, F.fn f) (hg : o.guard = none) (hd : ∀ c, o.op ≠ .defer c) {w' : World} (h : (execOp a.eval o).run P w = .ok .skip w')
    (k : wpListIn F n P ops Q rest (a.put o.dst undef) w') : wpListIn F n P ops Q (o :: rest) a w :=
  wpListIn_plain hg fun K hK => ⟨fun f _ => hF f, by rw [semAt_plain _ _ _ hd, h]; exact hK _ _ k⟩
theorem inl_valg {o : Oper} (hF : ∀ f, F.fn f) (hw : Region.wanted o (yielded ops a.tmps) = true) (hd : ∀ c, o.op ≠ .defer c) {v : Value} {w' : World} (h : (execOp a.eval o).run P w = .ok (.value v) w')
    (k : wpListIn F n P ops Q rest (a.put o.dst v) w') : wpListIn F n P ops Q (o :: rest) a w :=
  wpListIn_step fun K hK => by rw [if_pos hw]; exact ⟨fun f _ => hF f, by rw [semAt_plain _ _ _ hd, h]; exact hK _ _ k⟩
/-- a row of cells is loaded from the middle of a block, where a guard says so -/
theorem ilaw_loadg {gd : Option (Nat × Bool)} (hF : ∀ f, F.fn f) {ty : TypeId} {x : Operand} (g o : Nat) (cs : List Value) (cur : Array Value) (t : TypeId) (d : TypeDesc)
    (hw : Region.wanted { dst, op := .load ty x, type := ty0, pos, after, guard := gd } (yielded ops a.tmps) = true) (hx : a.eval x = .pointer (some ⟨g, o, none⟩)) (hg : Blk w g cur t)
    (hc : ∀ i, i < cs.length → cur[o + i]? = cs[i]?) (hu : P.underlying ty = some d) (hd : d.isRow = true) (hi : (P.info? ty).map (·.size) = some cs.length)
    (k : wpListIn F n P ops Q rest (a.put dst (.agg cs.toArray)) w) :
    wpListIn F n P ops Q ({ dst, op := .load ty x, type := ty0, pos, after, guard := gd } :: rest) a w :=
  inl_valg hF hw (by intro c h; cases h) (by
    have hr := run_loadAt_mid (P := P) w g o ty cs d (fun j v hv => by
      have hj : j < cs.length := by
        rcases Nat.lt_or_ge j cs.length with h | h
        · exact h
        · rw [List.getElem?_eq_none h] at hv; cases hv
      rw [hg.cell, hc j hj, hv]) hu hd hi
    unfold execOp
    simp only [hx, Sem.run_bind, hr, Result.andThen_ok]; rfl) k
/-- a whole block is loaded, where a guard (if there is one) says so -/
theorem ilaw_loadw {gd : Option (Nat × Bool)} (hF : ∀ f, F.fn f) {ty : TypeId} {x : Operand} (g : Nat) (cur : Array Value) (t : TypeId) (d : TypeDesc)
    (hw : Region.wanted { dst, op := .load ty x, type := ty0, pos, after, guard := gd } (yielded ops a.tmps) = true) (hx : a.eval x = .pointer (some ⟨g, 0, none⟩)) (hg : Blk w g cur t)
    (hu : P.underlying ty = some d) (hd : d.isRow = true) (hi : (P.info? ty).map (·.size) = some cur.size)
    (k : wpListIn F n P ops Q rest (a.put dst (.agg cur)) w) :
    wpListIn F n P ops Q ({ dst, op := .load ty x, type := ty0, pos, after, guard := gd } :: rest) a w :=
  ilaw_loadg hF g 0 cur.toList cur t d hw hx hg (fun i _ => by simp) hu hd (by simpa using hi) (by simpa using k)
variable (hF : ∀ f, F.fn f)
include hF
/-- a whole row of cells is stored into the middle of a block -/
theorem ilaw_store {ty : TypeId} {x y : Operand} (g o : Nat) (cs : List Value) (cur : Array Value) (t : TypeId) (hx : a.eval x = .pointer (some ⟨g, o, none⟩)) (hy : a.eval y = .agg cs.toArray) (hg : Blk w g cur t)
    (hle : o + cs.length ≤ cur.size) (h1 : ∀ v ∈ cs, v.oneCell' = true) (hi : (P.info? ty).map (·.size) = some cs.length)
    (k : ∀ W, Blk W g (lay cur o cs) t → w.grownBy W (some g) → W.heap.size = w.heap.size → wpListIn F n P ops Q rest (a.put dst undef) W) :
    wpListIn F n P ops Q ({ dst, op := .store ty x y, type := ty0, pos, after, guard := none } :: rest) a w :=
  inl_skip hF rfl (by intro c h; cases h) (w' := w.setRow g (lay cur o cs)) (by
    unfold execOp
    simp only [hx, hy, Instr.storeAt, Instr.sureAddr, Sem.run_bind, Sem.run_pure, Result.andThen_ok, run_store_row g o cs cur t ty hg hle h1 hi])
    (k _ (setRow_heap w g cur _ t _ hg) (grown_setRow w g _) (by simp))
/-- one cell is stored -/
theorem ilaw_store1 {ty : TypeId} {x y : Operand} (g o : Nat) (v : Value) (cur : Array Value) (t : TypeId) (hx : a.eval x = .pointer (some ⟨g, o, none⟩)) (hy : a.eval y = v) (hg : Blk w g cur t)
    (hle : o < cur.size) (h1 : v.oneCell' = true) (hi : (P.info? ty).map (·.size) = some 1)
    (k : ∀ W, Blk W g (cur.setIfInBounds o v) t → w.grownBy W (some g) → W.heap.size = w.heap.size → wpListIn F n P ops Q rest (a.put dst undef) W) :
    wpListIn F n P ops Q ({ dst, op := .store ty x y, type := ty0, pos, after, guard := none } :: rest) a w := by
  have hc : v.cells = #[v] := by cases v <;> first | rfl | (simp [Value.oneCell'] at h1)
  have hcell : w.cell? ⟨g, o, none⟩ = some cur[o] := by rw [hg.cell]; exact Array.getElem?_eq_getElem hle
  refine inl_skip hF rfl (by intro c h; cases h) (w' := w.setCell ⟨g, o, none⟩ v) ?_ (k _ (hg.set o v) (grown_set w g o v) (by show (w.heap.modify _ _).size = _; rw [Array.size_modify]))
  unfold execOp
  cases hq : P.info? ty with
  | none => simp [hq] at hi
  | some i =>
    have hs : i.size = 1 := by simpa [hq] using hi
    have hst : (storeCells ⟨g, o, none⟩ [v]).run P w = .ok () (w.setCell ⟨g, o, none⟩ v) := by
      cases v <;> first | (simp [Value.oneCell'] at h1; done) | (simp [storeCells, store, Sem.run, hcell, hg.frozen, Addr.add, Sem.bind, bind, pure])
    simp only [hx, hy, Instr.storeAt, Instr.sureAddr, Sem.run_bind, Sem.run_pure, Result.andThen_ok]
    simp [storeVar, Go.sizeOf, typeInfo, hq, hc, hs, hst]
/-- a row of cells is loaded from the middle of a block -/
theorem ilaw_load {ty : TypeId} {x : Operand} (g o : Nat) (cs : List Value) (cur : Array Value) (t : TypeId) (d : TypeDesc) (hx : a.eval x = .pointer (some ⟨g, o, none⟩)) (hg : Blk w g cur t)
    (hc : ∀ i, i < cs.length → cur[o + i]? = cs[i]?) (hu : P.underlying ty = some d) (hd : d.isRow = true) (hi : (P.info? ty).map (·.size) = some cs.length)
    (k : wpListIn F n P ops Q rest (a.put dst (.agg cs.toArray)) w) :
    wpListIn F n P ops Q ({ dst, op := .load ty x, type := ty0, pos, after, guard := none } :: rest) a w :=
  inl_val hF rfl (by intro c h; cases h) (by
    have hr := run_loadAt_mid (P := P) w g o ty cs d (fun j v hv => by
      have hj : j < cs.length := by
        rcases Nat.lt_or_ge j cs.length with h | h
        · exact h
        · rw [List.getElem?_eq_none h] at hv; cases hv
      rw [hg.cell, hc j hj, hv]) hu hd hi
    unfold execOp
    simp only [hx, Sem.run_bind, hr, Result.andThen_ok]; rfl) k
/-- one cell is loaded -/
theorem ilaw_load1 {ty : TypeId} {x : Operand} (g o : Nat) (v : Value) (cur : Array Value) (t : TypeId) (d : TypeDesc) (hx : a.eval x = .pointer (some ⟨g, o, none⟩)) (hg : Blk w g cur t)
    (hc : cur[o]? = some v) (hu : P.underlying ty = some d) (hd : d.isRow = false)
    (k : wpListIn F n P ops Q rest (a.put dst v) w) :
    wpListIn F n P ops Q ({ dst, op := .load ty x, type := ty0, pos, after, guard := none } :: rest) a w :=
  inl_val hF rfl (by intro c h; cases h) (by
    have hcell : w.cell? ⟨g, o, none⟩ = some v := by rw [hg.cell]; exact hc
    have hagg : (isAgg ty).run P w = .ok false w := by
      unfold isAgg
      rw [Sem.run_bind, run_underlying hu w]
      cases d <;> simp_all [TypeDesc.isRow]
    unfold execOp
    simp only [hx, Instr.loadAt, Instr.sureAddr, Sem.run_bind, Sem.run_pure, Result.andThen_ok]
    simp [loadVar, Sem.run_bind, hagg, load, Sem.run, hcell]) k
/-- a new variable -/
theorem ilaw_alloc {ty : TypeId} (z : Value) (hz : (P.info? ty).map (·.zero) = some (some z))
    (k : ∀ W, Blk W w.heap.size z.cells ty → w.grownBy W none → W.heap.size = w.heap.size + 1 → wpListIn F n P ops Q rest (a.put dst (.pointer (some ⟨w.heap.size, 0, none⟩))) W) :
    wpListIn F n P ops Q ({ dst, op := .alloc ty, type := ty0, pos, after, guard := none } :: rest) a w :=
  inl_val hF rfl (by intro c h; cases h) (w' := w.alloc (.cells z.cells ty)) (by
    unfold execOp
    cases hq : P.info? ty with
    | none => simp [hq] at hz
    | some i =>
      have hs : i.zero = some z := by simpa [hq] using hz
      simp [Instr.alloc, zeroValue, typeInfo, hq, hs, newVar, newRow, newObj]
      rfl) (k _ (Blk.new w _ _) (World.grownBy_alloc w _ none) (by simp))
/-- a value in a new variable -/
theorem ilaw_box {ty : TypeId} {x : Operand} (v : Value) (hx : a.eval x = v)
    (k : ∀ W, Blk W w.heap.size v.cells ty → w.grownBy W none → W.heap.size = w.heap.size + 1 → wpListIn F n P ops Q rest (a.put dst (.pointer (some ⟨w.heap.size, 0, none⟩))) W) :
    wpListIn F n P ops Q ({ dst, op := .box ty x, type := ty0, pos, after, guard := none } :: rest) a w :=
  inl_val hF rfl (by intro c h; cases h) (w' := w.alloc (.cells v.cells ty)) (by
    unfold execOp
    simp [hx, Instr.box, newVar, newRow, newObj, Sem.run, Sem.bind, bind, pure]) (k _ (Blk.new w _ _) (World.grownBy_alloc w _ none) (by simp))
/-- copy from a row into a block -/
theorem ilaw_copy {dT sT elem : TypeId} {x y : Operand} (g o dl dc : Nat) (a2 : Addr) (sl sc : Nat) (cur : Array Value) (t : TypeId) (cs : List Value) (hx : a.eval x = .slice (some ⟨g, o, none⟩) dl dc) (hy : a.eval y = .slice (some a2) sl sc)
    (hu : P.underlying dT = some (.slice elem)) (hs : (P.info? elem).map (·.size) = some 1) (hg : Blk w g cur t) (hn : cs.length = Nat.min sl dl)
    (hsrc : ∀ j v, cs[j]? = some v → w.cell? (a2.add j) = some v) (hfit : o + cs.length ≤ cur.size) (h1 : ∀ v ∈ cs, v.oneCell' = true)
    (k : ∀ W, Blk W g (lay cur o cs) t → w.grownBy W (some g) → W.heap.size = w.heap.size → wpListIn F n P ops Q rest (a.put dst (goInt cs.length)) W) :
    wpListIn F n P ops Q ({ dst, op := .call { callee := .builtin .copy, args := #[x, y], argTypes := #[dT, sT] }, type := ty0, pos, after, guard := none } :: rest) a w :=
  inl_val hF rfl (by intro c h; cases h) (w' := w.setRow g (lay cur o cs)) (by
    have hr := run_copy_row (P := P) w dT sT ty0 elem g o dl dc a2 sl sc cur t cs hu hs hg hn hsrc hfit h1
    rw [BigFrame.execOp_builtin, BigFrame.builtin_copy]
    simp only [List.map_toArray, List.map_cons, List.map_nil, hx, hy, Sem.run_bind, hr, Result.andThen_ok]; rfl)
    (k _ (setRow_heap w g cur _ t _ hg) (grown_setRow w g _) (by simp))
/-- a struct or an array out of its parts -/
theorem ilaw_build {ty : TypeId} {parts : Array (Nat × Operand)} (vs : List (Nat × Value)) (cells : Array Value) (hp : parts.toList.map (fun p => (p.1, a.eval p.2)) = vs) (h : P.built ty vs = some cells)
    (k : wpListIn F n P ops Q rest (a.put dst (.agg cells)) w) :
    wpListIn F n P ops Q ({ dst, op := .build ty parts, type := ty0, pos, after, guard := none } :: rest) a w :=
  inl_val hF rfl (by intro c h; cases h) (by
    have e : (parts.map fun (i, x) => (i, a.eval x)).toList = vs := by rw [← hp, Array.toList_map]
    unfold execOp
    simp only []
    rw [Sem.run_bind, run_build w ty _ cells (by rw [e]; exact h)]; rfl) k
end
theorem all_wide : ∀ f, Fence.wide.fn f := fun _ => trivial
theorem all_round (l : Nat) : ∀ f, (Fence.wide.inRound l).fn f := fun _ => trivial
end Scv
