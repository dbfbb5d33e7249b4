/- Steps under a guard; sums compared. -/
import Derived.Test.YteicjpjniaohhaaOpen
import Derived.ChangeKeysEq
set_option linter.unusedVariables false
set_option linter.unusedSimpArgs false
namespace Scv
open Go Go.RowKit
theorem run_part_u8s {P : Program} {w : World} {e : TypeId} (he : P.underlying e = some (.int .u8)) (a : List UInt8) (i : Nat) (hi : i < a.length) : (part e (u8s a) (i * 1)).run P w = .ok (vb (a.getD i 0)) w := by
  have hagg : (isAgg e).run P w = .ok false w := by
    unfold isAgg
    rw [Sem.run_bind, run_underlying he w]; rfl
  unfold part
  rw [Sem.run_bind, hagg, Nat.mul_one]
  simp [u8s_get a i hi]
theorem run_eqItems_u8s {P : Program} {w : World} {e : TypeId} (d : Nat) (he : P.underlying e = some (.int .u8)) (a b : List UInt8) (hab : a.length = b.length) : ∀ (m i : Nat), i + m = a.length →
    (Op.eqItems (d + 1) e 1 (u8s a) (u8s b) (List.range' i m)).run P w = .ok (decide (a.drop i = b.drop i)) w
  | 0, i, hi => by
    rw [List.drop_eq_nil_of_le (by omega), List.drop_eq_nil_of_le (by omega)]
    simp [Op.eqItems]
  | m + 1, i, hi => by
    have h1 := run_part_u8s (P := P) (w := w) he a i (by omega)
    have h2 := run_part_u8s (P := P) (w := w) he b i (by omega)
    have h3 : (Op.equalIn (d + 1) e (vb (a.getD i 0)) (vb (b.getD i 0))).run P w = .ok (((a.getD i 0).toNat : Int) == ((b.getD i 0).toNat : Int)) w := by
      simp only [Op.equalIn, Sem.run_bind, run_underlying he, Result.andThen_ok]
      simp
    have ih := run_eqItems_u8s (P := P) (w := w) d he a b hab m (i + 1) (by omega)
    have ea : a.drop i = a.getD i 0 :: a.drop (i + 1) := by
      rw [List.drop_eq_getElem_cons (by omega), List.getD_eq_getElem?_getD, List.getElem?_eq_getElem (show i < a.length by omega)]; rfl
    have eb : b.drop i = b.getD i 0 :: b.drop (i + 1) := by
      rw [List.drop_eq_getElem_cons (by omega), List.getD_eq_getElem?_getD, List.getElem?_eq_getElem (show i < b.length by omega)]; rfl
    rw [List.range'_succ]
    simp only [Op.eqItems, Sem.run_bind, h1, h2, h3, Result.andThen_ok]
    by_cases hx : a.getD i 0 = b.getD i 0
    · rw [hx]
      simp only [beq_self_eq_true, Bool.not_true, Bool.false_eq_true, if_false]
      rw [ih, ea, eb, hx]
      simp
    · have hne : (((a.getD i 0).toNat : Int) == ((b.getD i 0).toNat : Int)) = false := by
        rw [beq_eq_false_iff_ne]
        intro h
        exact hx (UInt8.toNat_inj.1 (by omega))
      rw [hne]
      simp only [Bool.not_false, if_true]
      rw [ea, eb]
      have : ¬ (a.getD i 0 :: a.drop (i + 1) = b.getD i 0 :: b.drop (i + 1)) := fun h => hx (List.cons.inj h).1
      rw [decide_eq_false this]; rfl
/-- sums compared -/
theorem run_equal_u8s {P : Program} {w : World} {t e : TypeId} (hu : P.underlying t = some (.array 32 e)) (he : P.underlying e = some (.int .u8)) (hi : (P.info? e).map (·.size) = some 1) (a b : List UInt8) (ha : a.length = 32) (hb : b.length = 32) :
    (Op.equal t (.agg (u8s a)) (.agg (u8s b))).run P w = .ok (decide (a = b)) w := by
  cases hq : P.info? e with
  | none => simp [hq] at hi
  | some i =>
    have hs : P.cellsOf e = 1 := by simp [hq] at hi; simp [Program.cellsOf, hq, hi]
    show (Op.equalIn (9999 + 1) t (.agg (u8s a)) (.agg (u8s b))).run P w = _
    rw [run_equalIn_array w 9999 _ _ hu hq, hs, List.range_eq_range']
    have := run_eqItems_u8s (P := P) (w := w) 9998 he a b (by rw [ha, hb]) 32 0 (by rw [ha])
    simpa using this
section
variable {P : Program} {ops : Array Oper} {o : Oper} {a : Act} {w : World} {K : Act → World → Prop} {Q : Exit → Act → World → Prop} {E : Prop}
theorem gstep_val (dst : Option Tmp) (hdst : o.dst = dst) (hw : Region.wanted o (yielded ops a.tmps) = true) {v : Value} {w' : World} (h : (execOp a.eval o).run P w = .ok (.value v) w') (k : K (a.put dst v) w') : if Region.wanted o (yielded ops a.tmps) = true then Oper.wp P o a w K Q else E := by
  rw [if_pos hw]
  unfold Oper.wp; rw [h]; subst hdst; exact k
theorem gstep_eql {t r : TypeId} {x y : Operand} (dst : Option Tmp) (hdst : o.dst = dst) (hop : o.op = .binOp .eql t x y r) (hw : Region.wanted o (yielded ops a.tmps) = true) (e : TypeId) (l m : List UInt8) (hx : a.eval x = .agg (u8s l)) (hy : a.eval y = .agg (u8s m))
    (hu : P.underlying t = some (.array 32 e)) (he : P.underlying e = some (.int .u8)) (hi : (P.info? e).map (·.size) = some 1) (hg : P.eqGuardType P.depth t = false) (hl : l.length = 32) (hm : m.length = 32)
    (k : K (a.put dst (.bool (decide (l = m)))) w) : if Region.wanted o (yielded ops a.tmps) = true then Oper.wp P o a w K Q else E :=
  gstep_val dst hdst hw (by
    have he := run_equal_u8s (P := P) (w := w) hu he hi l m hl hm
    have hp : ∀ w : World, (Sem.program Sem.pure).run P w = .ok P w := fun _ => rfl
    unfold execOp
    simp only [hop, hx, hy, Sem.run_bind]
    simp [hp, eqGuard, hg, binOp, Sem.run_bind, he, program]
    ) k
theorem gstep_neq {t r : TypeId} {x y : Operand} (dst : Option Tmp) (hdst : o.dst = dst) (hop : o.op = .binOp .neq t x y r) (hw : Region.wanted o (yielded ops a.tmps) = true) (e : TypeId) (l m : List UInt8) (hx : a.eval x = .agg (u8s l)) (hy : a.eval y = .agg (u8s m))
    (hu : P.underlying t = some (.array 32 e)) (he : P.underlying e = some (.int .u8)) (hi : (P.info? e).map (·.size) = some 1) (hg : P.eqGuardType P.depth t = false) (hl : l.length = 32) (hm : m.length = 32)
    (k : K (a.put dst (.bool (!decide (l = m)))) w) : if Region.wanted o (yielded ops a.tmps) = true then Oper.wp P o a w K Q else E :=
  gstep_val dst hdst hw (by
    have he := run_equal_u8s (P := P) (w := w) hu he hi l m hl hm
    have hp : ∀ w : World, (Sem.program Sem.pure).run P w = .ok P w := fun _ => rfl
    unfold execOp
    simp only [hop, hx, hy, Sem.run_bind]
    simp [hp, eqGuard, hg, binOp, Sem.run_bind, he, program]
    ) k
theorem gstep_bstring {src t : TypeId} {x : Operand} (dst : Option Tmp) (hdst : o.dst = dst) (hop : o.op = .convert src t x) (hw : Region.wanted o (yielded ops a.tmps) = true) (v : Value) (l : List UInt8) (e : TypeId) (hx : a.eval x = v) (hb : BytesAt w v l)
    (hs : P.underlying src = some (.slice e)) (he : P.underlying e = some (.int .u8)) (hd : P.underlying t = some .string) (k : K (a.put dst (.string ⟨l.toArray⟩)) w) : if Region.wanted o (yielded ops a.tmps) = true then Oper.wp P o a w K Q else E :=
  gstep_val dst hdst hw (by
    have hr : (convert src t v).run P w = .ok (.string ⟨l.toArray⟩) w := by
      obtain ⟨ad, cap, rfl, rfl | ⟨b, o, rfl, hc⟩⟩ := hb
      · rw [List.length_nil, run_convert_bytes_string w src t e ad 0 cap hs he hd]
        cases ad <;> simp [Conv.bytesToString, loadCells]
        all_goals rfl
      · refine run_convert_bytes_back w src t e ⟨b, o, none⟩ cap l hs he hd (fun j hj => ?_)
        rw [add_at, hc j hj]
        simp [byt, List.getD_eq_getElem?_getD, List.getElem?_eq_getElem hj]
    unfold execOp
    simp only [hop, hx, Sem.run_bind, hr, Result.andThen_ok]; rfl) k
theorem gstep_call {f : FuncId} {xs : Array Operand} {ts : Array TypeId} (dst : Option Tmp) (hdst : o.dst = dst) (hop : o.op = .call { callee := .value (.func f), args := xs, argTypes := ts }) (hw : Region.wanted o (yielded ops a.tmps) = true) (args : Array Value)
    (hx : xs.toList.map a.eval = args.toList) (he : ∀ w : World, (callFunc f args).run P w = .ok (.enter f args) w) {R : Ending → World → Prop} (hc : Calls P f args w R) (k : ∀ e w', R e w' → ∃ v, e = .returned v ∧ K (a.put dst v) w') :
    if Region.wanted o (yielded ops a.tmps) = true then Oper.wp P o a w K Q else E := by
  rw [if_pos hw]
  have hr : (execOp a.eval o).run P w = .ok (.enter f args) w := by
    have hxl : (xs.map fun x => a.eval x) = args := by apply Array.toList_inj.1; rw [Array.toList_map]; exact hx
    have hfe : a.eval (.func f) = .func (.func f) #[] #[] := rfl
    unfold execOp
    simp [hop, resolve, hfe, go_sem, invoke, hxl, he, -Array.map_map]
  unfold Oper.wp
  rw [hr]
  exact hc.mono fun e w' hR => by
    obtain ⟨v, rfl, hk⟩ := k e w' hR
    subst hdst
    exact hk
/-- a row of cells is loaded -/
theorem gstep_load {ty : TypeId} {x : Operand} (dst : Option Tmp) (hdst : o.dst = dst) (hop : o.op = .load ty x) (hw : Region.wanted o (yielded ops a.tmps) = true) (g off : Nat) (cs : List Value) (cur : Array Value) (t : TypeId) (d : TypeDesc)
    (hx : a.eval x = .pointer (some ⟨g, off, none⟩)) (hg : Blk w g cur t) (hc : ∀ i, i < cs.length → cur[off + i]? = cs[i]?) (hu : P.underlying ty = some d) (hd : d.isRow = true) (hi : (P.info? ty).map (·.size) = some cs.length)
    (k : K (a.put dst (.agg cs.toArray)) w) : if Region.wanted o (yielded ops a.tmps) = true then Oper.wp P o a w K Q else E :=
  gstep_val dst hdst hw (by
    have hr := run_loadAt_mid (P := P) w g off ty cs d (fun j v hv => by
      have hj : j < cs.length := by
        rcases Nat.lt_or_ge j cs.length with h | h
        · exact h
        · rw [List.getElem?_eq_none h] at hv; cases hv
      rw [hg.cell, hc j hj, hv]) hu hd hi
    unfold execOp
    simp only [hop, hx, Sem.run_bind, hr, Result.andThen_ok]; rfl) k
/-- an operation that yields in each world of S is taken first -/
theorem anyH_take {md : Region.Mode} {S : World → Prop} (i : Nat) (t : Option Tmp) {oi : Oper} {v : Value} {fuel : Nat} {listed : Array Bool} {a : Act} {w : World} {Q : Exit → Act → World → Prop} (hi : ops[i]? = some oi) (hdst : oi.dst = t)
    (hs : Region.noSelect ops = true) (hf : Region.free md ops listed i = true) (hr : (Region.ready md ops listed).contains i = true)
    (hQ : ∀ c a w, Q (.panic c) (a.put t v) w → Q (.panic c) a w) (hy : YieldsIf P ops S oi v a) (hS : S w)
    (h : wpAnyH P md ops Q S fuel (listed.setIfInBounds i true) (a.put t v) w) : wpAnyH P md ops Q S (fuel + 1) listed a w := by
  subst hdst
  exact wpAnyH_take hi hs hf hr hQ hy hS h
theorem yieldsIf_load {S : World → Prop} {ty : TypeId} {x : Operand} {oi : Oper} (hop : oi.op = .load ty x) (hw : Region.wanted oi (yielded ops a.tmps) = true) (g off : Nat) (cs : List Value) (cur : Array Value) (t : TypeId) (d : TypeDesc)
    (hx : a.eval x = .pointer (some ⟨g, off, none⟩)) (hg : ∀ w, S w → Blk w g cur t) (hc : ∀ i, i < cs.length → cur[off + i]? = cs[i]?) (hu : P.underlying ty = some d) (hd : d.isRow = true) (hi : (P.info? ty).map (·.size) = some cs.length) :
    YieldsIf P ops S oi (.agg cs.toArray) a :=
  .inl ⟨hw, fun w hS => by
    have hr := run_loadAt_mid (P := P) w g off ty cs d (fun j v hv => by
      have hj : j < cs.length := by
        rcases Nat.lt_or_ge j cs.length with h | h
        · exact h
        · rw [List.getElem?_eq_none h] at hv; cases hv
      rw [(hg w hS).cell, hc j hj, hv]) hu hd hi
    unfold execOp
    simp only [hop, hx, Sem.run_bind, hr, Result.andThen_ok]; rfl⟩
theorem yieldsIf_neq {S : World → Prop} {t r : TypeId} {x y : Operand} {oi : Oper} (hop : oi.op = .binOp .neq t x y r) (hw : Region.wanted oi (yielded ops a.tmps) = true) (e : TypeId) (l m : List UInt8) (hx : a.eval x = .agg (u8s l)) (hy : a.eval y = .agg (u8s m))
    (hu : P.underlying t = some (.array 32 e)) (he : P.underlying e = some (.int .u8)) (hi : (P.info? e).map (·.size) = some 1) (hg : P.eqGuardType P.depth t = false) (hl : l.length = 32) (hm : m.length = 32) : YieldsIf P ops S oi (.bool (!decide (l = m))) a :=
  .inl ⟨hw, fun w _ => by
    have he := run_equal_u8s (P := P) (w := w) hu he hi l m hl hm
    have hp : ∀ w : World, (Sem.program Sem.pure).run P w = .ok P w := fun _ => rfl
    unfold execOp
    simp only [hop, hx, hy, Sem.run_bind]
    simp [hp, eqGuard, hg, binOp, Sem.run_bind, he, program]⟩
theorem yieldsIf_eql {S : World → Prop} {t r : TypeId} {x y : Operand} {oi : Oper} (hop : oi.op = .binOp .eql t x y r) (hw : Region.wanted oi (yielded ops a.tmps) = true) (e : TypeId) (l m : List UInt8) (hx : a.eval x = .agg (u8s l)) (hy : a.eval y = .agg (u8s m))
    (hu : P.underlying t = some (.array 32 e)) (he : P.underlying e = some (.int .u8)) (hi : (P.info? e).map (·.size) = some 1) (hg : P.eqGuardType P.depth t = false) (hl : l.length = 32) (hm : m.length = 32) : YieldsIf P ops S oi (.bool (decide (l = m))) a :=
  .inl ⟨hw, fun w _ => by
    have he := run_equal_u8s (P := P) (w := w) hu he hi l m hl hm
    have hp : ∀ w : World, (Sem.program Sem.pure).run P w = .ok P w := fun _ => rfl
    unfold execOp
    simp only [hop, hx, hy, Sem.run_bind]
    simp [hp, eqGuard, hg, binOp, Sem.run_bind, he, program]⟩
end
end Scv
