/- Single operations as steps of a region that draws its order, and of a region that only reads. -/
import Derived.Test.YteicjpjniaohhaaWrite
import Derived.StillTactics
import Derived.Deep.CutRange
set_option linter.unusedVariables false
set_option linter.unusedSimpArgs false
namespace Scv
open Go Go.RowKit
theorem b64_or (x y : Nat) (hx : x < 4294967296) (hy : y < 4294967296) : bits .or .i64 x y = ((x ||| y : Nat) : Int) := by
  have h1 : x < 2 ^ 64 := Nat.lt_trans hx (by decide)
  have h2 : y < 2 ^ 64 := Nat.lt_trans hy (by decide)
  have h3 : x ||| y < 2 ^ 32 := Nat.or_lt_two_pow hx hy
  show IntKind.wrap .i64 ((BitVec.ofInt 64 x ||| BitVec.ofInt 64 y).toNat : Int) = _
  rw [BitVec.toNat_or, ofInt_nat _ _ h1, ofInt_nat _ _ h2]
  exact IntWalk.i64_in _ (by omega)
theorem wrap64_of (x : Nat) (h : x < 4294967296) : IntKind.i64.wrap (x : Int) = (x : Int) := IntWalk.i64_in _ (by omega)
theorem wrap64_mul (x m : Nat) (M : Int) (hM : M = (m : Int)) (h : x * m < 4294967296) : IntKind.i64.wrap ((x : Int) * M) = ((x * m : Nat) : Int) := by
  rw [hM, ← Int.natCast_mul]; exact wrap64_of _ h
/-- three bytes, the highest first, as the program lays them together -/
theorem num24_go (x0 x1 x2 : Nat) (h0 : x0 < 256) (h1 : x1 < 256) (h2 : x2 < 256) :
    bits .or .i64 (bits .or .i64 (IntKind.i64.wrap (IntKind.i64.wrap (x0 : Int) * 65536)) (IntKind.i64.wrap (IntKind.i64.wrap (x1 : Int) * 256))) (IntKind.i64.wrap (x2 : Int)) = (((x0 * 256 + x1) * 256 + x2 : Nat) : Int) := by
  rewrite [wrap64_of x0 (by omega), wrap64_of x1 (by omega), wrap64_of x2 (by omega)]
  have e1 := wrap64_mul x0 65536 65536 (by omega) (by omega)
  have e2 := wrap64_mul x1 256 256 (by omega) (by omega)
  rewrite [e1, e2, b64_or _ _ (by omega) (by omega)]
  have o2 : x0 * 65536 ||| x1 * 256 = x0 * 65536 + x1 * 256 := by
    have := or_add x0 (x1 * 256) 16 (by omega)
    rewrite [show (2 : Nat) ^ 16 = 65536 from by decide] at this; exact this
  rewrite [o2, b64_or _ _ (by omega) (by omega)]
  have o3 : (x0 * 65536 + x1 * 256) ||| x2 = x0 * 65536 + x1 * 256 + x2 := by
    have := or_add (x0 * 256 + x1) x2 8 (by omega)
    rewrite [show (x0 * 256 + x1) * 2 ^ 8 = x0 * 65536 + x1 * 256 from by omega] at this; exact this
  rewrite [o3]
  have : x0 * 65536 + x1 * 256 + x2 = (x0 * 256 + x1) * 256 + x2 := by omega
  rewrite [this]; rfl
section
variable {P : Program} {ops : Array Oper} {o : Oper} {a : Act} {w : World} {K : Act → World → Prop} {Q : Exit → Act → World → Prop} {E : Prop}
/-- an operation that yields in whatever world is taken first -/
theorem any_take {md : Region.Mode} {Q : Exit → Act → World → Prop} (i : Nat) (t : Option Tmp) {oi : Oper} {v : Value} {fuel : Nat} {listed : Array Bool} {a : Act} {w : World} (hi : ops[i]? = some oi) (hdst : oi.dst = t)
    (hs : Region.noSelect ops = true) (hf : Region.free md ops listed i = true) (hr : (Region.ready md ops listed).contains i = true)
    (hQ : ∀ c a w, Q (.panic c) (a.put t v) w → Q (.panic c) a w) (hy : Yields P ops oi v a)
    (h : wpAny P md ops Q fuel (listed.setIfInBounds i true) (a.put t v) w) : wpAny P md ops Q (fuel + 1) listed a w := by
  subst hdst
  exact wpAny_take hi hs hf hr hQ hy h
theorem step_val (dst : Option Tmp) (hdst : o.dst = dst) (hg : o.guard = none) {v : Value} {w' : World} (h : (execOp a.eval o).run P w = .ok (.value v) w') (k : K (a.put dst v) w') : if Region.wanted o (yielded ops a.tmps) = true then Oper.wp P o a w K Q else E := by
  rw [if_pos (by simp [Region.wanted, hg])]
  unfold Oper.wp; rw [h]; subst hdst; exact k
theorem step_skip (dst : Option Tmp) (hdst : o.dst = dst) (hg : o.guard = none) {w' : World} (h : (execOp a.eval o).run P w = .ok .skip w') (k : K (a.put dst undef) w') : if Region.wanted o (yielded ops a.tmps) = true then Oper.wp P o a w K Q else E := by
  rw [if_pos (by simp [Region.wanted, hg])]
  unfold Oper.wp; rw [h]; subst hdst; exact k
/-- a new variable -/
theorem step_alloc (dst : Option Tmp) (hdst : o.dst = dst) {ty : TypeId} (hop : o.op = .alloc ty) (hg : o.guard = none) (z : Value) (hz : (P.info? ty).map (·.zero) = some (some z))
    (k : ∀ W, Blk W w.heap.size z.cells ty → w.grownBy W none → W.heap.size = w.heap.size + 1 → K (a.put dst (.pointer (some ⟨w.heap.size, 0, none⟩))) W) :
    if Region.wanted o (yielded ops a.tmps) = true then Oper.wp P o a w K Q else E :=
  step_val dst hdst hg (w' := w.alloc (.cells z.cells ty)) (by
    unfold execOp
    cases hq : P.info? ty with
    | none => simp [hq] at hz
    | some i =>
      have hs : i.zero = some z := by simpa [hq] using hz
      simp [hop, Instr.alloc, zeroValue, typeInfo, hq, hs, newVar, newRow, newObj]
      rfl) (k _ (Blk.new w _ _) (World.grownBy_alloc w _ none) (by simp))
/-- a slice literal -/
theorem step_bslice (dst : Option Tmp) (hdst : o.dst = dst) {t : TypeId} {len : Nat} {parts : Array (Nat × Operand)} (hop : o.op = .buildSlice t len parts) (hg : o.guard = none) (e : TypeId) (es : List Value) (ht : P.underlying t = some (.slice e)) (hi : (P.info? e).map (fun i => (i.size, i.zero.isSome)) = some (1, true))
    (hpos : 0 < len) (hlen : es.length = len) (hle : len ≤ 16777216) (h1 : ∀ v ∈ es, v.oneCell' = true) (hp : parts.toList.map (fun p => (p.1, a.eval p.2)) = (es.zipIdx 0).map fun x => (x.2, x.1))
    (k : ∀ W, Blk W w.heap.size es.toArray e → w.grownBy W none → W.heap.size = w.heap.size + 1 → K (a.put dst (.slice (some ⟨w.heap.size, 0, none⟩) len len)) W) :
    if Region.wanted o (yielded ops a.tmps) = true then Oper.wp P o a w K Q else E := by
  cases hq : P.info? e with
  | none => simp [hq] at hi
  | some i =>
    simp only [hq, Option.map_some, Option.some.injEq, Prod.mk.injEq] at hi
    obtain ⟨z, hz⟩ := Option.isSome_iff_exists.1 hi.2
    have ee : (parts.map fun (i, x) => (i, a.eval x)).toList = (es.zipIdx 0).map fun x => (x.2, x.1) := by rw [← hp, Array.toList_map]
    refine step_val dst hdst hg (w' := w.alloc (.cells es.toArray e)) ?_ (k _ (Blk.new w _ _) (World.grownBy_alloc w _ none) (by simp))
    unfold execOp
    simp only [hop]
    rw [Sem.run_bind, run_buildSlice w t e len _ es.toArray i z ht hq hz (by rw [hi.1]; omega) (by rw [hi.1]; omega) (by rw [ee, hi.1]; exact Great.fill_flat _ _ (fun v hv => cells_one v (h1 v hv)) (by simp [hlen]))]
    rfl
/-- a whole row of cells is stored into the middle of a block -/
theorem step_store (dst : Option Tmp) (hdst : o.dst = dst) {ty : TypeId} {x y : Operand} (hop : o.op = .store ty x y) (hgd : o.guard = none) (g off : Nat) (cs : List Value) (cur : Array Value) (t : TypeId) (hx : a.eval x = .pointer (some ⟨g, off, none⟩)) (hy : a.eval y = .agg cs.toArray) (hg : Blk w g cur t)
    (hle : off + cs.length ≤ cur.size) (h1 : ∀ v ∈ cs, v.oneCell' = true) (hi : (P.info? ty).map (·.size) = some cs.length)
    (k : ∀ W, Blk W g (lay cur off cs) t → w.grownBy W (some g) → W.heap.size = w.heap.size → K (a.put dst undef) W) :
    if Region.wanted o (yielded ops a.tmps) = true then Oper.wp P o a w K Q else E :=
  step_skip dst hdst hgd (w' := w.setRow g (lay cur off cs)) (by
    unfold execOp
    simp only [hop, hx, hy, Instr.storeAt, Instr.sureAddr, Sem.run_bind, Sem.run_pure, Result.andThen_ok, run_store_row g off cs cur t ty hg hle h1 hi])
    (k _ (setRow_heap w g cur _ t _ hg) (grown_setRow w g _) (by simp))
/-- a call of a function -/
theorem step_call (dst : Option Tmp) (hdst : o.dst = dst) {f : FuncId} {xs : Array Operand} {ts : Array TypeId} (hop : o.op = .call { callee := .value (.func f), args := xs, argTypes := ts }) (hg : o.guard = none) (args : Array Value) (hx : xs.toList.map a.eval = args.toList)
    (he : ∀ w : World, (callFunc f args).run P w = .ok (.enter f args) w) {R : Ending → World → Prop} (hc : Calls P f args w R) (k : ∀ e w', R e w' → ∃ v, e = .returned v ∧ K (a.put dst v) w') :
    if Region.wanted o (yielded ops a.tmps) = true then Oper.wp P o a w K Q else E := by
  rw [if_pos (by simp [Region.wanted, hg])]
  have hr : (execOp a.eval o).run P w = .ok (.enter f args) w := by
    have hxl : (xs.map fun x => a.eval x) = args := by apply Array.toList_inj.1; rw [Array.toList_map]; exact hx
    have hfe : a.eval (.func f) = .func (.func f) #[] #[] := rfl
    unfold execOp
    simp [hop, resolve, hfe, go_sem, invoke, hxl, he, -Array.map_map]
  unfold Oper.wp
  rw [hr]
  exact hc.mono fun e w' hR => by
    obtain ⟨v, rfl, hk⟩ := k e w' hR
    subst hdst
    exact hk
/-- a string out of bytes, in a region that only reads -/
theorem still_bstring {K : Act → Prop} {src t : TypeId} {x : Operand} (hop : o.op = .convert src t x) (hg : o.guard = none) (v : Value) (l : List UInt8) (e : TypeId) (hx : a.eval x = v) (hb : BytesAt w v l) (hs : P.underlying src = some (.slice e)) (he : P.underlying e = some (.int .u8))
    (hd : P.underlying t = some .string) (k : K (a.put o.dst (.string ⟨l.toArray⟩))) : if Region.wanted o (yielded ops a.tmps) = true then o.still P a w K else E := by
  rw [if_pos (by simp [Region.wanted, hg])]
  have hr : (convert src t v).run P w = .ok (.string ⟨l.toArray⟩) w := by
    obtain ⟨ad, cap, rfl, rfl | ⟨b, o, rfl, hc⟩⟩ := hb
    · rw [List.length_nil, run_convert_bytes_string w src t e ad 0 cap hs he hd]
      cases ad <;> simp [Conv.bytesToString, loadCells]
      all_goals rfl
    · refine run_convert_bytes_back w src t e ⟨b, o, none⟩ cap l hs he hd (fun j hj => ?_)
      rw [add_at, hc j hj]
      simp [byt, List.getD_eq_getElem?_getD, List.getElem?_eq_getElem hj]
  have h2 : (execOp a.eval o).run P w = .ok (.value (.string ⟨l.toArray⟩)) w := by
    unfold execOp
    simp only [hop, hx, Sem.run_bind, hr, Result.andThen_ok]; rfl
  unfold Oper.still
  rw [h2]
  exact ⟨rfl, k⟩
end
end Scv
