/- The reference's journal: Open. -/
import Derived.WalkMore
import Derived.Test.YteicjpjniaohhaaRRec
import Derived.Test.YteicjpjniaohhaaOpen
set_option linter.unusedVariables false
set_option linter.unusedSimpArgs false
namespace Scv
open Go Go.RowKit
/-- the cells of the reference's journal -/
def rjcells (d : Disk) (rv : Value) (s : Jour) : Array Value := dcells d ++ (#[rv] ++ u8s s.last ++ #[.bool s.down])
abbrev rjval (d : Disk) (rv : Value) (s : Jour) : Value := .agg (rjcells d rv s)
theorem rjcells_size (d : Disk) (rv : Value) (s : Jour) (h : s.last.length = 32) : (rjcells d rv s).size = 38 := by simp [rjcells, dcells, u8s, h]
theorem rjcells_rv (d : Disk) (rv : Value) (s : Jour) : (rjcells d rv s)[4]? = some rv := by
  unfold rjcells
  rw [Array.getElem?_append_right (by rw [dcells_size]; omega), dcells_size, Array.append_assoc, Array.getElem?_append_left (by simp)]; rfl
theorem rjcells_last (d : Disk) (rv : Value) (s : Jour) (i : Nat) (h : i < s.last.length) : (rjcells d rv s)[5 + i]? = some (vb (s.last.getD i 0)) := by
  unfold rjcells
  rw [Array.getElem?_append_right (by rw [dcells_size]; omega), dcells_size, Array.append_assoc, Array.getElem?_append_right (by simp; omega), Array.getElem?_append_left (by simp [u8s]; omega)]
  rw [show 5 + i - 4 - (#[rv] : Array Value).size = i from by simp; omega]
  simp [u8s, vb, List.getElem?_eq_getElem h, List.getD_eq_getElem?_getD]
theorem rjcells_down (d : Disk) (rv : Value) (s : Jour) (h : s.last.length = 32) : (rjcells d rv s)[37]? = some (.bool s.down) := by
  unfold rjcells
  rw [Array.getElem?_append_right (by rw [dcells_size]; omega), dcells_size, Array.getElem?_append_right (by simp [u8s, h])]
  simp [u8s, h]
theorem rjcells_disk (d : Disk) (rv : Value) (s : Jour) (i : Nat) (h : i < 4) : (rjcells d rv s)[i]? = (dcells d)[i]? := by
  unfold rjcells; rw [Array.getElem?_append_left (by rw [dcells_size]; exact h)]
theorem rjcells_one (d : Disk) (rv : Value) (s : Jour) (h : rv.oneCell' = true) : ∀ v ∈ (rjcells d rv s).toList, v.oneCell' = true := by
  intro v hv
  simp only [rjcells, dcells, u8s, Array.toList_append, List.mem_append, List.mem_cons, List.not_mem_nil, or_false, List.mem_map] at hv
  rcases hv with (rfl | rfl | rfl | rfl) | (rfl | ⟨b, _, rfl⟩) | rfl <;> first | rfl | exact h
theorem lay_ext (a b : Array Value) (o : Nat) (cs : List Value) (hsz : b.size = a.size) (hle : o + cs.length ≤ a.size) (h1 : ∀ i, i < cs.length → b[o + i]? = cs[i]?) (h2 : ∀ i, (i < o ∨ o + cs.length ≤ i) → b[i]? = a[i]?) : lay a o cs = b := by
  apply Array.ext'
  apply List.ext_getElem?
  intro i
  rw [Array.getElem?_toList, Array.getElem?_toList]
  by_cases h : o ≤ i ∧ i < o + cs.length
  · obtain ⟨j, rfl⟩ : ∃ j, i = o + j := ⟨i - o, by omega⟩
    rw [lay_get_in a o cs j (by omega) (by omega), h1 j (by omega)]
  · rw [lay_get_out a o cs i hle (by omega), h2 i (by omega)]
theorem rjcells_put (d : Disk) (rv rv' : Value) (s : Jour) (rs : List (List UInt8)) : (rjcells d rv s).setIfInBounds 4 rv' = rjcells d rv' ⟨rs, s.last, s.down⟩ := by
  unfold rjcells dcells
  simp
theorem rjcells_layd (d d' : Disk) (rv : Value) (s : Jour) (h : s.last.length = 32) : lay (rjcells d rv s) 0 (dcells d').toList = rjcells d' rv s := by
  refine lay_ext _ _ _ _ (by rw [rjcells_size _ _ _ h, rjcells_size _ _ _ h]) (by rw [rjcells_size _ _ _ h]; show 0 + 4 ≤ 38; omega) (fun i hi => ?_) (fun i hi => ?_)
  · have hi : i < 4 := hi
    rw [Nat.zero_add, rjcells_disk _ _ _ _ hi]; simp
  · have hi : 4 ≤ i := by
      rcases hi with h | h
      · omega
      · have h : 0 + 4 ≤ i := h
        omega
    have g : ∀ d : Disk, (rjcells d rv s)[i]? = (#[rv] ++ u8s s.last ++ #[.bool s.down])[i - 4]? := fun d => by
      unfold rjcells; rw [Array.getElem?_append_right (by rw [dcells_size]; exact hi), dcells_size]
    rw [g, g]
theorem rjcells_layl (d : Disk) (rv : Value) (s : Jour) (l : List UInt8) (rs : List (List UInt8)) (h : s.last.length = 32) (hl : l.length = 32) : lay (rjcells d rv s) 5 (l.map vb) = rjcells d rv ⟨rs, l, s.down⟩ := by
  refine lay_ext _ _ _ _ (by rw [rjcells_size _ _ _ h, rjcells_size _ _ _ hl]) (by rw [rjcells_size _ _ _ h, List.length_map, hl]; omega) (fun i hi => ?_) (fun i hi => ?_)
  · rw [List.length_map] at hi
    rw [rjcells_last d rv ⟨rs, l, s.down⟩ i hi]; simp [List.getD_eq_getElem?_getD, List.getElem?_eq_getElem hi]
  · rw [List.length_map, hl] at hi
    rcases hi with hi | hi
    · match i, hi with
      | 0, _ => rw [rjcells_disk _ _ _ _ (by omega), rjcells_disk _ _ _ _ (by omega)]
      | 1, _ => rw [rjcells_disk _ _ _ _ (by omega), rjcells_disk _ _ _ _ (by omega)]
      | 2, _ => rw [rjcells_disk _ _ _ _ (by omega), rjcells_disk _ _ _ _ (by omega)]
      | 3, _ => rw [rjcells_disk _ _ _ _ (by omega), rjcells_disk _ _ _ _ (by omega)]
      | 4, _ => rw [rjcells_rv, rjcells_rv]
    · by_cases h37 : i = 37
      · subst h37; rw [rjcells_down _ _ _ h, rjcells_down _ _ _ hl]
      · rw [Array.getElem?_eq_none (by rw [rjcells_size _ _ _ hl]; omega), Array.getElem?_eq_none (by rw [rjcells_size _ _ _ h]; omega)]
section
variable {P : Program} {ops : Array Oper} {Q : Exit → Act → World → Prop} {a : Act} {w : World} {rest : List Oper} {dst : Option Tmp} {ty0 : TypeId} {pos : String} {after : Array Edge}
/-- a part of a text -/
theorem law_spart {t : TypeId} {x y z : Operand} (l : List UInt8) (i m : Nat) (I J : Int) (r : List UInt8) (hr : r = (l.drop i).take m) (hx : a.eval x = vs l) (hy : a.eval y = .int .i64 I) (hz : a.eval z = .int .i64 J) (hI : I = (i : Int)) (hJ : J = (i : Int) + m) (hj : i + m ≤ l.length) (h : P.underlying t = some .string)
    (k : wpList P ops Q rest (a.put dst (vs r)) w) :
    wpList P ops Q ({ dst, op := .slice t x (some y) (some z) none, type := ty0, pos, after, guard := none } :: rest) a w :=
  wpList_val rfl (by
    have hr' := run_sslice (P := P) w t l i (i + m) h (by omega) hj
    have e : ((i + m : Nat) : Int) = J := by omega
    have e2 : (l.take (i + m)).drop i = (l.drop i).take m := by rw [List.drop_take, Nat.add_sub_cancel_left]
    rw [e, e2, ← hr, ← hI] at hr'
    unfold execOp
    simp only [hx, hy, hz, Option.map_some, Option.map_none, Sem.run_bind, hr', Result.andThen_ok]; rfl) k
theorem yieldsIf_spart' {S : World → Prop} {t : TypeId} {x y z : Operand} {oi : Oper} (hop : oi.op = .slice t x (some y) (some z) none) (hw : Region.wanted oi (yielded ops a.tmps) = true) (l : List UInt8) (i m : Nat) (I J : Int) (r : List UInt8) (hr : r = (l.drop i).take m)
    (hx : a.eval x = vs l) (hy : a.eval y = .int .i64 I) (hz : a.eval z = .int .i64 J) (hI : I = (i : Int)) (hJ : J = (i : Int) + m) (hj : i + m ≤ l.length) (h : P.underlying t = some .string) : YieldsIf P ops S oi (vs r) a :=
  .inl ⟨hw, fun w _ => by
    have hr' := run_sslice (P := P) w t l i (i + m) h (by omega) hj
    have e : ((i + m : Nat) : Int) = J := by omega
    have e2 : (l.take (i + m)).drop i = (l.drop i).take m := by rw [List.drop_take, Nat.add_sub_cancel_left]
    rw [e, e2, ← hr, ← hI] at hr'
    unfold execOp
    simp only [hop, hx, hy, hz, Option.map_some, Option.map_none, Sem.run_bind, hr', Result.andThen_ok]; rfl⟩
theorem beq_str (l m : List UInt8) : ((⟨l.toArray⟩ : ByteArray).toList == (⟨m.toArray⟩ : ByteArray).toList) = decide (l = m) := by
  rw [ByteArray.toList_mk, ByteArray.toList_mk]
  by_cases h : l = m
  · rw [h]; simp
  · rw [decide_eq_false h]; exact beq_eq_false_iff_ne.2 h
theorem yieldsIf_sneq {S : World → Prop} {t r : TypeId} {x y : Operand} {oi : Oper} (hop : oi.op = .binOp .neq t x y r) (hw : Region.wanted oi (yielded ops a.tmps) = true) (l m : List UInt8)
    (hx : a.eval x = vs l) (hy : a.eval y = vs m) : YieldsIf P ops S oi (.bool (!decide (l = m))) a :=
  .inl ⟨hw, fun w _ => by
    have hr : (binOp .neq t (vs l) (vs m)).run P w = .ok (.bool (!decide (l = m))) w := by
      have : binOp .neq t (vs l) (vs m) = pure (.bool !((⟨l.toArray⟩ : ByteArray).toList == (⟨m.toArray⟩ : ByteArray).toList)) := by simp [binOp, Op.stringOp]
      rw [this, beq_str]; rfl
    unfold execOp
    simp only [hop, hx, hy, Sem.run_bind]
    simp [hr, eqGuard]⟩
end
theorem be24_n24 (b : List UInt8) (h : 3 ≤ b.length) : be24 (n24 b) = b.take 3 := by
  match b, h with
  | x :: y :: z :: t, _ =>
    have e0 : byt (x :: y :: z :: t) 0 = x.toNat := rfl
    have e1 : byt (x :: y :: z :: t) 1 = y.toNat := rfl
    have e2 : byt (x :: y :: z :: t) 2 = z.toNat := rfl
    have l0 := x.toNat_lt
    have l1 := y.toNat_lt
    have l2 := z.toNat_lt
    have b8e : ∀ (u : UInt8) (n : Nat), n % 256 = u.toNat → b8 n = u := fun u n h => by
      apply UInt8.toNat_inj.1; unfold b8; rw [UInt8.toNat_ofNat']; exact h
    unfold be24 n24
    rw [e0, e1, e2, b8e x _ (by omega), b8e y _ (by omega), b8e z _ (by omega)]; rfl
theorem rec_eq (b last : List UInt8) (n : Nat) (hn : n = n24 b) (hl : 35 + n ≤ b.length) (hown : ownS last (b.take 3) = (b.drop 3).take 16) :
    b.take (35 + n) = recB last ((b.drop 35).take n) ↔ (lnk last ((b.drop 35).take n)).take 16 = (b.drop 19).take 16 := by
  have hdl : ((b.drop 35).take n).length = n := by simp; omega
  have hb : be24 n = b.take 3 := by rw [hn]; exact be24_n24 b (by omega)
  have hsplit : b.take (35 + n) = b.take 3 ++ ((b.drop 3).take 16 ++ ((b.drop 19).take 16 ++ (b.drop 35).take n)) := by
    have e1 : b.take (35 + n) = b.take 3 ++ (b.drop 3).take (16 + (16 + n)) := by rw [show 35 + n = 3 + (16 + (16 + n)) from by omega, List.take_add]
    have e2 : (b.drop 3).take (16 + (16 + n)) = (b.drop 3).take 16 ++ ((b.drop 3).drop 16).take (16 + n) := List.take_add
    have e3 : ((b.drop 3).drop 16).take (16 + n) = ((b.drop 3).drop 16).take 16 ++ (((b.drop 3).drop 16).drop 16).take n := List.take_add
    rw [e1, e2, e3]; simp [List.drop_drop]
  rw [hsplit]
  unfold recB frontS
  rw [hdl, hb, hown]
  simp only [List.append_assoc, List.append_cancel_left_eq]
  constructor
  · intro h
    have := congrArg (List.take 16) h
    rw [List.take_left' (by simp; omega), List.take_left' (by rw [List.length_take, lnk_length]; rfl)] at this
    exact this.symm
  · intro h; rw [h]
/-- what the reference's Open gives -/
def jr (r : Option Jour × Disk × Int) : Jour := r.1.getD ⟨[], zero32, false⟩
end Scv
namespace Go.Proofs.Yteicjpjniaohhaa
open Go.RowKit Go.Shelf Scv
theorem Try.srjour : (Try.prog.info? 52).map (·.size) = some 38 := by kernel_rfl
theorem Try.urjour : ∃ d, Try.prog.underlying 52 = some d ∧ d.isRow = true := isrow_of (by kernel_rfl)
theorem Try.zrjour : (Try.prog.info? 52).map (·.zero) = some (some (.agg (rjcells ⟨0, [], 0, 0⟩ (.slice none 0 0) ⟨[], zero32, false⟩))) := by kernel_rfl
theorem Try.istr : (Try.prog.info? 9).map (fun i => (i.size, decide (i.bytes ≤ 128), i.zero)) = some (1, true, some (vs [])) := by kernel_rfl
theorem Try.sstrs : (Try.prog.info? 50).map (·.size) = some 1 := by kernel_rfl
/-- what holds at the head of the loop: k bytes are read -/
structure Try.RInv (d : Disk) (b : List UInt8) (g1 g2 g4 : Nat) (w wr : World) (k : Nat) (rs : List (List UInt8)) (last : List UInt8) (rv : Value) : Prop where
  le : k ≤ b.length
  box : Blk wr g1 (dcells d) 47
  res : Blk wr g2 (rjcells ⟨0, [], 0, 0⟩ (.slice none 0 0) ⟨[], zero32, false⟩) 52
  jour : Blk wr g4 (rjcells d rv ⟨rs, last, false⟩) 52
  row : Row wr w.heap.size 9 rv (rs.map vs)
  len : last.length = 32
  scan : scanA b zero32 = Scv.ahead rs k (scanA (b.drop k) last)
  grown : w.grownBy wr none
  ne : rv.ownBlock ≠ some g1 ∧ rv.ownBlock ≠ some g2 ∧ rv.ownBlock ≠ some g4
  cnt : rs.length ≤ k
theorem Try.RInv.step {d : Disk} {b : List UInt8} {g1 g2 g4 : Nat} {w wr W : World} {k : Nat} {rs : List (List UInt8)} {last : List UInt8} {rv : Value} (h : Try.RInv d b g1 g2 g4 w wr k rs last rv) (hg : wr.grownBy W none) : Try.RInv d b g1 g2 g4 w W k rs last rv :=
  ⟨h.le, h.box.kept hg (by simp), h.res.kept hg (by simp), h.jour.kept hg (by simp), h.row.grown hg (.inl rfl), h.len, h.scan, grown_trans h.grown hg, h.ne, h.cnt⟩
set_option maxRecDepth 100000 in
set_option maxHeartbeats 4000000 in
theorem ropen_calls (d : Disk) (w : World) (hok : d.ok) :
    Calls Try.prog 22 #[dval d] w fun e w' => w.grownBy w' none ∧ ∃ rv, Row w' w.heap.size 9 rv ((jr (opened d)).records.map vs) ∧ e = .returned (.tuple #[rjval (opened d).2.1 rv (jr (opened d)), .int .i64 (opened d).2.2]) := by
  obtain ⟨td, hu, htd⟩ := Try.udslab
  obtain ⟨tj, huj, htj⟩ := Try.urjour
  have hN : d.bytes.length ≤ 4194304 := Nat.le_trans hok.fits hok.room
  obtain ⟨b, hb⟩ : ∃ b, b = d.bytes := ⟨_, rfl⟩
  rw [← hb] at hN
  have HB := Lib.hid hb
  have HOK := Lib.hid hok
  clear hb hok
  go_enter Try.func22, Try.ntmps22
  go_wp2_with (first | (with_reducible refine law_box (.agg (dcells d)) rfl ?_) | (with_reducible refine law_alloc _ Try.zrjour ?_))
  intro W1 hb1 hg1 hz1
  go_wp2_with (first | (with_reducible refine law_box (.agg (dcells d)) rfl ?_) | (with_reducible refine law_alloc _ Try.zrjour ?_))
  intro W2 hb2 hg2 hz2
  obtain ⟨g1, hg1'⟩ : ∃ g, g = w.heap.size := ⟨_, rfl⟩
  obtain ⟨g2, hg2'⟩ : ∃ g, g = W1.heap.size := ⟨_, rfl⟩
  rw [← hg1'] at hb1
  rw [← hg2'] at hb2
  rw [← hg1', ← hg2']
  replace hb1 : Blk W2 g1 (dcells d) 47 := Blk.kept (cs := dcells d) hb1 hg2 (by simp)
  replace hb2 : Blk W2 g2 (rjcells ⟨0, [], 0, 0⟩ (.slice none 0 0) ⟨[], zero32, false⟩) 52 := hb2
  have hG2 := grown_trans hg1 hg2
  have HO := Lib.hid (show g1 = w.heap.size ∧ g2 = g1 + 1 ∧ W2.heap.size = g2 + 1 by omega)
  clear hg1 hg2 hg1' hg2' hz1 hz2
  go_wp2_with (first | ((with_reducible refine law_loadw g1 (dcells d) _ _ ?_ hb1 hu htd ?_ ?_); rfl; exact Try.sdslab) |
    ((with_reducible refine law_build [(0, .agg (dcells d))] (rjcells d (.slice none 0 0) ⟨[], zero32, false⟩) ?_ ?_ ?_); rfl; kernel_rfl) | (with_reducible refine law_alloc _ Try.zrjour ?_))
  intro W3 hb3 hg3 hz3
  obtain ⟨g4, hg4'⟩ : ∃ g, g = W2.heap.size := ⟨_, rfl⟩
  rw [← hg4'] at hb3
  rw [← hg4']
  replace hb3 : Blk W3 g4 (rjcells ⟨0, [], 0, 0⟩ (.slice none 0 0) ⟨[], zero32, false⟩) 52 := hb3
  go_wp2_with ((with_reducible refine law_storew g4 (rjcells d (.slice none 0 0) ⟨[], zero32, false⟩) _ _ ?_ ?_ hb3 ?_ ?_ ?_ ?_); rfl; rfl; (rw [rjcells_size _ _ _ rfl, rjcells_size _ _ _ rfl]); exact rjcells_one _ _ _ rfl; (rw [rjcells_size _ _ _ rfl]; exact Try.srjour))
  intro W4 hb4 hg4 hz4
  have hord : g1 = w.heap.size ∧ g1 < g2 ∧ g2 < g4 ∧ g4 < W4.heap.size := by
    have := HO.out
    have := hb4.lt
    omega
  have hI0 : Try.RInv d b g1 g2 g4 w W4 0 [] zero32 (.slice none 0 0) := by
    have hgg : W2.grownBy W4 none := grown_new hg3 hg4 (by rintro _ ⟨⟩; rw [hg4']; exact Nat.le_refl _)
    refine ⟨Nat.zero_le _, hb1.kept hgg (by simp), hb2.kept hgg (by simp), hb4, Row.nil _ _ _, rfl, ?_, grown_trans hG2 hgg, by simp [Value.ownBlock], Nat.le_refl _⟩
    rw [List.drop_zero]; cases scanA b zero32 with
    | none => rfl
    | some x => obtain ⟨r, l, m⟩ := x; simp [Scv.ahead]
  have HOR := Lib.hid hord
  clear hb1 hb2 hb3 hb4 hg3 hg4 hz3 hz4 hG2 hg4' HO hord
  go_wp2_with fail
  go_loopw [5] (fun s5 wr => ∃ (k : Nat) (rs : List (List UInt8)) (last : List UInt8) (rv : Value), s5 = .int .i64 (k : Int) ∧ Try.RInv d b g1 g2 g4 w wr k rs last rv) (fun s5 _ => b.length - (intOf s5).toNat)
  case atStart => exact ⟨0, [], zero32, _, rfl, hI0⟩
  case round =>
    clear hI0
    obtain ⟨k, rs, last, rv, rfl, hI⟩ := hrel
    have hk := hI.le
    obtain ⟨_, _, _, c3⟩ := dblk_cells hI.box
    rw [← HB.out] at c3
    have HI := Lib.hid hI
    clear hI
    by_cases h35 : b.length < k + 35
    · have t35 : ¬ (35 : Int) ≤ (b.length : Int) - k := by omega
      have hrd : rd1 last (b.drop k) = .stop := by unfold rd1; rw [if_pos (by rw [List.length_drop]; omega)]
      have HR := Lib.hid hrd
      clear hrd h35
      by_cases hkl : k < b.length
      · have t1 : (k : Int) < b.length := by omega
        have hbox := HI.out.box
        go_wp2_with ((with_reducible refine law_loadw g1 (dcells d) _ _ ?_ hbox hu htd ?_ ?_); rfl; exact Try.sdslab)
        refine (dcut_calls d k _ HOK.out (by rw [← HB.out]; exact hk)).mono ?_
        rintro _ W5 ⟨rfl, hg5⟩
        have HI5 := Lib.hid (HI.out.step hg5)
        clear hbox hg5 c3
        rcases cut_code d k with hcc | hcc
        · rw [hcc]
          have HC := Lib.hid hcc
          clear hcc
          go_wp2_with (with_reducible refine law_alloc _ Try.zdslab ?_)
          intro W6 hb6 hg6 hz6
          obtain ⟨g9, hg9⟩ : ∃ g, g = W5.heap.size := ⟨_, rfl⟩
          rw [← hg9] at hb6
          rw [← hg9]
          replace hb6 : Blk W6 g9 (dcells ⟨0, [], 0, 0⟩) 47 := hb6
          have HI6 := Lib.hid (HI5.out.step hg6)
          have hg9l : g4 < g9 ∧ w.heap.size ≤ g9 ∧ g1 < g9 ∧ g2 < g9 ∧ rv.ownBlock ≠ some g9 := by
            have h1 := HI5.out.jour.lt
            have h2 := HI5.out.box.lt
            have h3 := HI5.out.res.lt
            have h4 := HI5.out.grown.size
            refine ⟨by omega, by omega, by omega, by omega, fun e => ?_⟩
            have := (HI5.out.row.lt g9 e).2
            omega
          clear hg6 hz6 hg9 HI5
          go_wp2_with ((with_reducible refine law_storew g9 (dcells (d.cut k).1) _ _ ?_ ?_ hb6 ?_ ?_ ?_ ?_); rfl; rfl; rfl; exact dcells_one _; exact Try.sdslab)
          intro W7 hb7 hg7 hz7
          have hj7 := HI6.out.jour.kept hg7 (by simp; omega)
          have hr7 := HI6.out.res.kept hg7 (by simp; omega)
          have hrow7 := HI6.out.row.grown hg7 (.inr (fun e => hg9l.2.2.2.2 e))
          have hG7 := grown_new HI6.out.grown hg7 (by rintro _ ⟨⟩; exact hg9l.2.1)
          have hll := HI6.out.len
          have hne := HI6.out.ne
          have HX := Lib.hid (And.intro hrow7 (And.intro hG7 (And.intro hll (And.intro hne (And.intro hr7 HI6.out.scan)))))
          clear hb6 hg7 hz7 hg9l hrow7 hG7 hll hne HI6
          go_wp2_with (first | ((with_reducible refine law_loadw g9 (dcells (d.cut k).1) _ _ ?_ hb7 hu htd ?_ ?_); rfl; exact Try.sdslab) |
            ((with_reducible refine law_store g4 0 (dcells (d.cut k).1).toList _ _ ?_ ?_ hj7 ?_ ?_ ?_ ?_); rfl; rfl; (rw [rjcells_size _ _ _ HX.out.2.2.1]; show 0 + 4 ≤ 38; omega); exact dcells_one _; exact Try.sdslab))
          intro W8 hb8 hg8 hz8
          rw [rjcells_layd _ _ _ _ HX.out.2.2.1] at hb8
          have hr8 := HX.out.2.2.2.2.1.kept hg8 (by have := HOR.out; simp; omega)
          have HX8 := Lib.hid (And.intro (HX.out.1.grown hg8 (.inr HX.out.2.2.2.1.2.2)) (grown_new HX.out.2.1 hg8 (by rintro _ ⟨⟩; have := HOR.out; omega)))
          clear hb7 hj7 hg8 hz8
          go_wp2_with (first | ((with_reducible refine law_loadw g4 _ _ _ ?_ hb8 huj htj ?_ ?_); rfl; (rw [rjcells_size _ _ _ HX.out.2.2.1]; exact Try.srjour)) |
            ((with_reducible refine law_storew g2 (rjcells (d.cut k).1 rv ⟨rs, last, false⟩) _ _ ?_ ?_ hr8 ?_ ?_ ?_ ?_); rfl; rfl; (rw [rjcells_size _ _ _ HX.out.2.2.1, rjcells_size _ _ _ rfl]); exact rjcells_one _ _ _ HX.out.1.one; (rw [rjcells_size _ _ _ HX.out.2.2.1]; exact Try.srjour)))
          intro W9 hb9 hg9 hz9
          have hrow9 := HX8.out.1.grown hg9 (.inr HX.out.2.2.2.1.2.1)
          have hG9 := grown_new HX8.out.2 hg9 (by rintro _ ⟨⟩; have := HOR.out; omega)
          have ho : opened d = (some ⟨rs, last, false⟩, (d.cut k).1, 0) := by
            have hsc := HX.out.2.2.2.2.2
            rw [scanA_stop HR.out] at hsc
            simp only [Scv.ahead, List.append_nil, Nat.add_zero] at hsc
            unfold opened; rw [← HB.out, hsc]; simp only []; rw [if_pos hkl, if_neg (by simp [HC.out])]
          have HE := Lib.hid (And.intro ho (And.intro hrow9 hG9))
          clear ho hrow9 hG9 hg9 hz9 hb8 hr8
          go_wp2_with fail
          try rw [Exit.noGoto_ret]
          refine bodyPost_ret (results_row2 rfl _ _ g2 52 _ _ _ rfl hb9 huj htj (by rw [rjcells_size _ _ _ HX.out.2.2.1]; exact Try.srjour) _ rfl) rfl ?_
          rw [HE.out.1]
          exact ⟨HE.out.2.2, rv, HE.out.2.1, rfl⟩
        · rw [hcc]
          have HC := Lib.hid hcc
          clear hcc
          go_wp2_with (with_reducible refine law_alloc _ Try.zdslab ?_)
          intro W6 hb6 hg6 hz6
          obtain ⟨g9, hg9⟩ : ∃ g, g = W5.heap.size := ⟨_, rfl⟩
          rw [← hg9] at hb6
          rw [← hg9]
          replace hb6 : Blk W6 g9 (dcells ⟨0, [], 0, 0⟩) 47 := hb6
          have HI6 := Lib.hid (HI5.out.step hg6)
          have hg9l : g4 < g9 ∧ w.heap.size ≤ g9 ∧ g1 < g9 ∧ g2 < g9 := by
            have h1 := HI5.out.jour.lt
            have h2 := HI5.out.box.lt
            have h3 := HI5.out.res.lt
            have h4 := HI5.out.grown.size
            omega
          clear hg6 hz6 hg9 HI5
          go_wp2_with ((with_reducible refine law_storew g9 (dcells (d.cut k).1) _ _ ?_ ?_ hb6 ?_ ?_ ?_ ?_); rfl; rfl; rfl; exact dcells_one _; exact Try.sdslab)
          intro W7 hb7 hg7 hz7
          have hbox7 := HI6.out.box.kept hg7 (by simp; omega)
          have hr7 := HI6.out.res.kept hg7 (by simp; omega)
          have HX := Lib.hid (And.intro HI6.out.scan (grown_new HI6.out.grown hg7 (by rintro _ ⟨⟩; exact hg9l.2.1)))
          clear hb6 hg7 hz7 hg9l HI6 hb7
          go_wp2_with (first | ((with_reducible refine law_loadw g1 (dcells d) _ _ ?_ hbox7 hu htd ?_ ?_); rfl; exact Try.sdslab) |
            ((with_reducible refine law_build [(0, .agg (dcells d))] (rjcells d (.slice none 0 0) ⟨[], zero32, false⟩) ?_ ?_ ?_); rfl; kernel_rfl) |
            ((with_reducible refine law_storew g2 (rjcells d (.slice none 0 0) ⟨[], zero32, false⟩) _ _ ?_ ?_ hr7 ?_ ?_ ?_ ?_); rfl; rfl; (rw [rjcells_size _ _ _ rfl, rjcells_size _ _ _ rfl]); exact rjcells_one _ _ _ rfl; (rw [rjcells_size _ _ _ rfl]; exact Try.srjour)))
          intro W9 hb9 hg9 hz9
          have hG9 := grown_new HX.out.2 hg9 (by rintro _ ⟨⟩; have := HOR.out; omega)
          have ho : opened d = (none, d, 90) := by
            have hsc := HX.out.1
            rw [scanA_stop HR.out] at hsc
            simp only [Scv.ahead, List.append_nil, Nat.add_zero] at hsc
            have hcd : (d.cut k).1 = d := by
              have := HC.out
              unfold Disk.cut at this ⊢
              split
              · rfl
              · rename_i h; rw [if_neg h] at this; exact absurd this (by simp)
            unfold opened; rw [← HB.out, hsc]; simp only []; rw [if_pos hkl, if_pos (by simp [HC.out]), HC.out, hcd]
          have HE := Lib.hid (And.intro ho hG9)
          clear ho hG9 hg9 hz9 hbox7 hr7
          go_wp2_with fail
          try rw [Exit.noGoto_ret]
          refine bodyPost_ret (results_row2 rfl _ _ g2 52 _ _ _ rfl hb9 huj htj (by rw [rjcells_size _ _ _ rfl]; exact Try.srjour) _ rfl) rfl ?_
          rw [HE.out.1]
          exact ⟨HE.out.2, _, Row.nil _ _ _, rfl⟩
      · have t1 : ¬ (k : Int) < b.length := by omega
        have hjour := HI.out.jour
        have hres := HI.out.res
        have hll := HI.out.len
        have HLL := Lib.hid hll
        clear hll
        go_wp2_with (first | ((with_reducible refine law_loadw g4 _ _ _ ?_ hjour huj htj ?_ ?_); rfl; (rw [rjcells_size _ _ _ HLL.out]; exact Try.srjour)) |
          ((with_reducible refine law_storew g2 (rjcells d rv ⟨rs, last, false⟩) _ _ ?_ ?_ hres ?_ ?_ ?_ ?_); rfl; rfl; (rw [rjcells_size _ _ _ HLL.out, rjcells_size _ _ _ rfl]); exact rjcells_one _ _ _ HI.out.row.one; (rw [rjcells_size _ _ _ HLL.out]; exact Try.srjour)))
        intro W9 hb9 hg9 hz9
        have hrow9 := HI.out.row.grown hg9 (.inr HI.out.ne.2.1)
        have hG9 := grown_new HI.out.grown hg9 (by rintro _ ⟨⟩; have := HOR.out; omega)
        have ho : opened d = (some ⟨rs, last, false⟩, d, 0) := by
          have hsc := HI.out.scan
          rw [scanA_stop HR.out] at hsc
          simp only [Scv.ahead, List.append_nil, Nat.add_zero] at hsc
          unfold opened; rw [← HB.out, hsc]; simp only []; rw [if_neg (by omega)]
        have HE := Lib.hid (And.intro ho (And.intro hrow9 hG9))
        clear ho hrow9 hG9 hg9 hz9 hjour hres
        go_wp2_with fail
        try rw [Exit.noGoto_ret]
        refine bodyPost_ret (results_row2 rfl _ _ g2 52 _ _ _ rfl hb9 huj htj (by rw [rjcells_size _ _ _ HLL.out]; exact Try.srjour) _ rfl) rfl ?_
        rw [HE.out.1]
        exact ⟨HE.out.2.2, rv, HE.out.2.1, rfl⟩
    · have t35 : (35 : Int) ≤ (b.length : Int) - k := by omega
      obtain ⟨dg, hdg⟩ : ∃ x, x = (b.drop k).take 3 := ⟨_, rfl⟩
      have hdl : dg.length = 3 := by rw [hdg, List.length_take, List.length_drop]; omega
      have hn24 : n24 (b.drop k) = (byt dg 0 * 256 + byt dg 1) * 256 + byt dg 2 := by
        rw [hdg]
        have : ∀ i, i < 3 → byt ((b.drop k).take 3) i = byt (b.drop k) i := fun i hi => by unfold byt; simp [List.getD_eq_getElem?_getD, List.getElem?_take, hi]
        rw [this 0 (by omega), this 1 (by omega), this 2 (by omega)]; rfl
      have l0 := byt_lt dg 0
      have l1 := byt_lt dg 1
      have l2 := byt_lt dg 2
      obtain ⟨x0, hx0⟩ : ∃ x, x = byt dg 0 := ⟨_, rfl⟩
      obtain ⟨x1, hx1⟩ : ∃ x, x = byt dg 1 := ⟨_, rfl⟩
      obtain ⟨x2, hx2⟩ : ∃ x, x = byt dg 2 := ⟨_, rfl⟩
      rw [← hx0] at l0
      rw [← hx1] at l1
      rw [← hx2] at l2
      rw [← hx0, ← hx1, ← hx2] at hn24
      obtain ⟨n, hn⟩ : ∃ n, n = n24 (b.drop k) := ⟨_, rfl⟩
      rw [← hn] at hn24
      have hnl : n < 16777216 := by rw [hn]; exact n24_lt _
      have a0 : IntKind.i64.wrap (x0 : Int) = x0 := IntWalk.i64_in _ (by omega)
      have a1 : IntKind.i64.wrap (x1 : Int) = x1 := IntWalk.i64_in _ (by omega)
      have a2 : IntKind.i64.wrap (x2 : Int) = x2 := IntWalk.i64_in _ (by omega)
      have e1 : IntKind.i64.wrap ((x0 : Int) * 65536) = x0 * 65536 := IntWalk.i64_in _ (by omega)
      have e2 : IntKind.i64.wrap ((x1 : Int) * 256) = x1 * 256 := IntWalk.i64_in _ (by omega)
      have e3 : IntKind.i64.wrap ((x0 : Int) * 65536 + (x1 : Int) * 256) = x0 * 65536 + x1 * 256 := IntWalk.i64_in _ (by omega)
      have e4 : IntKind.i64.wrap ((x0 : Int) * 65536 + (x1 : Int) * 256 + (x2 : Int)) = n := by rw [IntWalk.i64_in _ (by omega), hn24]; omega
      have HD := Lib.hid (And.intro hdg (And.intro hdl (And.intro hx0 (And.intro hx1 (And.intro hx2 hn)))))
      have k3 : k + 3 ≤ b.length := by omega
      clear hx0 hx1 hx2 hn24 hn hdl l0 l1 l2 hdg
      go_wp2_with ((with_reducible refine law_spart b k 3 (k : Int) ((k : Int) + 3) dg HD.out.1 ?_ ?_ ?_ ?_ ?_ ?_ Try.ustr ?_); rfl; rfl; rfl; rfl; omega; omega)
      refine wp_region_still_lit (by kernel_rfl) (by kernel_rfl) ?_
      still_step
      refine wpStill_step (fun K hK => ?_)
      refine still_sindex rfl rfl dg _ 0 rfl rfl rfl (by rw [HD.out.2.1]; omega) Try.ustr (hK _ ?_)
      clear hK K
      simp only [Act.put, List.setIfInBounds_toArray, List.set_cons_zero, List.set_cons_succ]
      rw [← HD.out.2.2.1]
      still_step
      still_step
      still_step
      refine wpStill_step (fun K hK => ?_)
      refine still_sindex rfl rfl dg _ 1 rfl rfl rfl (by rw [HD.out.2.1]; omega) Try.ustr (hK _ ?_)
      clear hK K
      simp only [Act.put, List.setIfInBounds_toArray, List.set_cons_zero, List.set_cons_succ]
      rw [← HD.out.2.2.2.1]
      still_step
      still_step
      still_step
      still_step
      refine wpStill_step (fun K hK => ?_)
      refine still_sindex rfl rfl dg _ 2 rfl rfl rfl (by rw [HD.out.2.1]; omega) Try.ustr (hK _ ?_)
      clear hK K
      simp only [Act.put, List.setIfInBounds_toArray, List.set_cons_zero, List.set_cons_succ]
      rw [← HD.out.2.2.2.2.1]
      repeat still_step
      refine wpStill_nil ?_
      change Exit.then _ _ _ _ wr.drew
      clear a0 a1 a2 e1 e2 e3 e4
      obtain ⟨own, hown⟩ : ∃ x, x = ownS last dg := ⟨_, rfl⟩
      obtain ⟨tC, htC⟩ : ∃ x, x = (b.drop (k + 3)).take 16 := ⟨_, rfl⟩
      have hrd : rd1 last (b.drop k) = if own ≠ tC then .torn else if b.length - k - 35 < n then .stop else
          if (lnk last ((b.drop (k + 35)).take n)).take 16 ≠ (b.drop (k + 19)).take 16 then .torn else .next ((b.drop (k + 35)).take n) := by
        unfold rd1
        rw [if_neg (by rw [List.length_drop]; omega), ← HD.out.2.2.2.2.2, ← HD.out.1, ← hown, List.drop_drop, List.drop_drop, List.drop_drop, ← htC, List.length_drop]
      have HR0 := Lib.hid (And.intro hown (And.intro htC hrd))
      have h32 := HI.out.len
      have HLL := Lib.hid h32
      have s3 : IntKind.i64.wrap ((k : Int) + 3) = k + 3 := IntWalk.i64_in _ (by omega)
      have s19 : IntKind.i64.wrap ((k : Int) + 19) = k + 19 := IntWalk.i64_in _ (by omega)
      clear hown htC hrd h32
      go_wp2_with fail
      have hS0 : Blk wr.drew.drew g1 (dcells d) 47 ∧ Blk wr.drew.drew g4 (rjcells d rv ⟨rs, last, false⟩) 52 := ⟨HI.out.box, HI.out.jour⟩
      refine wp_region_held_drew (S := fun w' : World => Blk w' g1 (dcells d) 47 ∧ Blk w' g4 (rjcells d rv ⟨rs, last, false⟩) 52) (by kernel_rfl) hS0 (fun _ => ?_)
      refine anyH_take 0 (some 38) (v := ?_) rfl rfl (by kernel_rfl) (by kernel_rfl) (by kernel_rfl) (fun _ _ _ h => h) (Or.inl ⟨by rfl, ?_⟩) hS0 ?_
      rotate_left
      · intro w _
        go_simp
        try (with_reducible rfl)
      simp only [Act.put, List.setIfInBounds_toArray, List.set_cons_zero, List.set_cons_succ]
      refine anyH_take 1 (some 39) rfl rfl (by kernel_rfl) (by kernel_rfl) (by kernel_rfl) (fun _ _ _ h => h) (yieldsIf_load1 rfl rfl ⟨g1, 3, none⟩ (vs b) _ rfl (fun _ h => by have := (dblk_cells h.1).2.2.2; rw [← HB.out] at this; exact this) Try.nstr rfl) hS0 ?_
      simp only [Act.put, List.setIfInBounds_toArray, List.set_cons_zero, List.set_cons_succ]
      refine anyH_take 2 (some 40) (v := ?_) rfl rfl (by kernel_rfl) (by kernel_rfl) (by kernel_rfl) (fun _ _ _ h => h) (Or.inl ⟨by rfl, ?_⟩) hS0 ?_
      rotate_left
      · intro w _
        go_simp
        try (with_reducible rfl)
      simp only [Act.put, List.setIfInBounds_toArray, List.set_cons_zero, List.set_cons_succ]
      refine anyH_take 3 (some 41) (v := ?_) rfl rfl (by kernel_rfl) (by kernel_rfl) (by kernel_rfl) (fun _ _ _ h => h) (Or.inl ⟨by rfl, ?_⟩) hS0 ?_
      rotate_left
      · intro w _
        go_simp
        try (with_reducible rfl)
      simp only [Act.put, List.setIfInBounds_toArray, List.set_cons_zero, List.set_cons_succ]
      refine anyH_take 4 (some 42) (v := ?_) rfl rfl (by kernel_rfl) (by kernel_rfl) (by kernel_rfl) (fun _ _ _ h => h) (Or.inl ⟨by rfl, ?_⟩) hS0 ?_
      rotate_left
      · intro w _
        go_simp
        try (with_reducible rfl)
      simp only [Act.put, List.setIfInBounds_toArray, List.set_cons_zero, List.set_cons_succ]
      refine anyH_take 5 (some 43) (v := ?_) rfl rfl (by kernel_rfl) (by kernel_rfl) (by kernel_rfl) (fun _ _ _ h => h) (Or.inl ⟨by rfl, ?_⟩) hS0 ?_
      rotate_left
      · intro w _
        go_simp
        try (with_reducible rfl)
      simp only [Act.put, List.setIfInBounds_toArray, List.set_cons_zero, List.set_cons_succ]
      refine anyH_take 6 (some 44) rfl rfl (by kernel_rfl) (by kernel_rfl) (by kernel_rfl) (fun _ _ _ h => h) (yieldsIf_spart' rfl rfl b (k + 3) 16 ((k : Int) + 3) ((k : Int) + 19) tC HR0.out.2.1 rfl rfl rfl (by omega) (by omega) (by omega) Try.ustr) hS0 ?_
      simp only [Act.put, List.setIfInBounds_toArray, List.set_cons_zero, List.set_cons_succ]
      refine anyH_take 7 (some 45) (v := ?_) rfl rfl (by kernel_rfl) (by kernel_rfl) (by kernel_rfl) (fun _ _ _ h => h) (Or.inl ⟨by rfl, ?_⟩) hS0 ?_
      rotate_left
      · intro w _
        go_simp
        try (with_reducible rfl)
      simp only [Act.put, List.setIfInBounds_toArray, List.set_cons_zero, List.set_cons_succ]
      refine anyH_take 8 (some 46) rfl rfl (by kernel_rfl) (by kernel_rfl) (by kernel_rfl) (fun _ _ _ h => h) (yieldsIf_load rfl rfl g4 5 (last.map vb) _ _ _ rfl (fun _ h => h.2) (by intro i hi; rw [List.length_map] at hi; rw [rjcells_last _ _ _ i hi]; simp [List.getD_eq_getElem?_getD, List.getElem?_eq_getElem hi]) Try.uid rfl (by rw [Try.sid, List.length_map, HLL.out])) hS0 ?_
      simp only [Act.put, List.setIfInBounds_toArray, List.set_cons_zero, List.set_cons_succ]
      refine anyH_take 9 (some 47) (v := ?_) rfl rfl (by kernel_rfl) (by kernel_rfl) (by kernel_rfl) (fun _ _ _ h => h) (Or.inl ⟨by rfl, ?_⟩) hS0 ?_
      rotate_left
      · intro w _
        go_simp
        try (with_reducible rfl)
      simp only [Act.put, List.setIfInBounds_toArray, List.set_cons_zero, List.set_cons_succ]
      refine wpAnyH_ready (rs := [10]) (by kernel_rfl) (by simp) ?_
      refine AllReadyH.cons rfl (fun K hK => ?_) AllReadyH.nil
      refine gstep_call (some 48) rfl rfl rfl #[.agg (u8s last), vs dg] rfl (fun _ => by simp [go_sem]) (rown_calls last dg _ HLL.out (by rw [HD.out.2.1]; omega)) ?_
      rintro _ W5 ⟨rfl, hg5⟩
      rw [← HR0.out.1]
      have hS5 : Blk W5 g1 (dcells d) 47 ∧ Blk W5 g4 (rjcells d rv ⟨rs, last, false⟩) 52 := ⟨hS0.1.kept hg5 (by simp), hS0.2.kept hg5 (by simp)⟩
      refine ⟨_, rfl, ?_⟩
      refine hK.out _ _ hS5 (fun _ => ?_)
      clear hK K
      simp only [Act.put, List.setIfInBounds_toArray, List.set_cons_zero, List.set_cons_succ]
      refine anyH_take 11 (some 49) rfl rfl (by kernel_rfl) (by kernel_rfl) (by kernel_rfl) (fun _ _ _ h => h) (yieldsIf_sneq rfl rfl tC own rfl rfl) hS5 ?_
      simp only [Act.put, List.setIfInBounds_toArray, List.set_cons_zero, List.set_cons_succ]
      refine wpAnyH_done (by kernel_rfl) ?_ _

      clear s3 s19
      have HI5 := Lib.hid ((HI.out.step (grown_trans (grown_drew wr none) (grown_drew _ none))).step hg5)
      clear hS0 hS5 hg5
      by_cases heq : own = tC
      · obtain rfl : own = tC := heq
        rw [show (!decide (own = own)) = false from by simp]
        by_cases hnl2 : b.length - k - 35 < n
        · have t2 : (b.length : Int) - k - 35 < n := by omega
          obtain ⟨_, _, _, c3⟩ := dblk_cells HI5.out.box
          rw [← HB.out] at c3
          have hrd : rd1 last (b.drop k) = .stop := by rw [HR0.out.2.2, if_neg (by simp), if_pos hnl2]
          have HR := Lib.hid hrd
          clear hrd HI
          have HI := HI5
          clear HI5
          by_cases hkl : k < b.length
          · have t1 : (k : Int) < b.length := by omega
            have hbox := HI.out.box
            go_wp2_with ((with_reducible refine law_loadw g1 (dcells d) _ _ ?_ hbox hu htd ?_ ?_); rfl; exact Try.sdslab)
            refine (dcut_calls d k _ HOK.out (by rw [← HB.out]; exact hk)).mono ?_
            rintro _ W5 ⟨rfl, hg5⟩
            have HI5 := Lib.hid (HI.out.step hg5)
            clear hbox hg5 c3
            rcases cut_code d k with hcc | hcc
            · rw [hcc]
              have HC := Lib.hid hcc
              clear hcc
              go_wp2_with (with_reducible refine law_alloc _ Try.zdslab ?_)
              intro W6 hb6 hg6 hz6
              obtain ⟨g9, hg9⟩ : ∃ g, g = W5.heap.size := ⟨_, rfl⟩
              rw [← hg9] at hb6
              rw [← hg9]
              replace hb6 : Blk W6 g9 (dcells ⟨0, [], 0, 0⟩) 47 := hb6
              have HI6 := Lib.hid (HI5.out.step hg6)
              have hg9l : g4 < g9 ∧ w.heap.size ≤ g9 ∧ g1 < g9 ∧ g2 < g9 ∧ rv.ownBlock ≠ some g9 := by
                have h1 := HI5.out.jour.lt
                have h2 := HI5.out.box.lt
                have h3 := HI5.out.res.lt
                have h4 := HI5.out.grown.size
                refine ⟨by omega, by omega, by omega, by omega, fun e => ?_⟩
                have := (HI5.out.row.lt g9 e).2
                omega
              clear hg6 hz6 hg9 HI5
              go_wp2_with ((with_reducible refine law_storew g9 (dcells (d.cut k).1) _ _ ?_ ?_ hb6 ?_ ?_ ?_ ?_); rfl; rfl; rfl; exact dcells_one _; exact Try.sdslab)
              intro W7 hb7 hg7 hz7
              have hj7 := HI6.out.jour.kept hg7 (by simp; omega)
              have hr7 := HI6.out.res.kept hg7 (by simp; omega)
              have hrow7 := HI6.out.row.grown hg7 (.inr (fun e => hg9l.2.2.2.2 e))
              have hG7 := grown_new HI6.out.grown hg7 (by rintro _ ⟨⟩; exact hg9l.2.1)
              have hll := HI6.out.len
              have hne := HI6.out.ne
              have HX := Lib.hid (And.intro hrow7 (And.intro hG7 (And.intro hll (And.intro hne (And.intro hr7 HI6.out.scan)))))
              clear hb6 hg7 hz7 hg9l hrow7 hG7 hll hne HI6
              go_wp2_with (first | ((with_reducible refine law_loadw g9 (dcells (d.cut k).1) _ _ ?_ hb7 hu htd ?_ ?_); rfl; exact Try.sdslab) |
                ((with_reducible refine law_store g4 0 (dcells (d.cut k).1).toList _ _ ?_ ?_ hj7 ?_ ?_ ?_ ?_); rfl; rfl; (rw [rjcells_size _ _ _ HX.out.2.2.1]; show 0 + 4 ≤ 38; omega); exact dcells_one _; exact Try.sdslab))
              intro W8 hb8 hg8 hz8
              rw [rjcells_layd _ _ _ _ HX.out.2.2.1] at hb8
              have hr8 := HX.out.2.2.2.2.1.kept hg8 (by have := HOR.out; simp; omega)
              have HX8 := Lib.hid (And.intro (HX.out.1.grown hg8 (.inr HX.out.2.2.2.1.2.2)) (grown_new HX.out.2.1 hg8 (by rintro _ ⟨⟩; have := HOR.out; omega)))
              clear hb7 hj7 hg8 hz8
              go_wp2_with (first | ((with_reducible refine law_loadw g4 _ _ _ ?_ hb8 huj htj ?_ ?_); rfl; (rw [rjcells_size _ _ _ HX.out.2.2.1]; exact Try.srjour)) |
                ((with_reducible refine law_storew g2 (rjcells (d.cut k).1 rv ⟨rs, last, false⟩) _ _ ?_ ?_ hr8 ?_ ?_ ?_ ?_); rfl; rfl; (rw [rjcells_size _ _ _ HX.out.2.2.1, rjcells_size _ _ _ rfl]); exact rjcells_one _ _ _ HX.out.1.one; (rw [rjcells_size _ _ _ HX.out.2.2.1]; exact Try.srjour)))
              intro W9 hb9 hg9 hz9
              have hrow9 := HX8.out.1.grown hg9 (.inr HX.out.2.2.2.1.2.1)
              have hG9 := grown_new HX8.out.2 hg9 (by rintro _ ⟨⟩; have := HOR.out; omega)
              have ho : opened d = (some ⟨rs, last, false⟩, (d.cut k).1, 0) := by
                have hsc := HX.out.2.2.2.2.2
                rw [scanA_stop HR.out] at hsc
                simp only [Scv.ahead, List.append_nil, Nat.add_zero] at hsc
                unfold opened; rw [← HB.out, hsc]; simp only []; rw [if_pos hkl, if_neg (by simp [HC.out])]
              have HE := Lib.hid (And.intro ho (And.intro hrow9 hG9))
              clear ho hrow9 hG9 hg9 hz9 hb8 hr8
              go_wp2_with fail
              try rw [Exit.noGoto_ret]
              refine bodyPost_ret (results_row2 rfl _ _ g2 52 _ _ _ rfl hb9 huj htj (by rw [rjcells_size _ _ _ HX.out.2.2.1]; exact Try.srjour) _ rfl) rfl ?_
              rw [HE.out.1]
              exact ⟨HE.out.2.2, rv, HE.out.2.1, rfl⟩
            · rw [hcc]
              have HC := Lib.hid hcc
              clear hcc
              go_wp2_with (with_reducible refine law_alloc _ Try.zdslab ?_)
              intro W6 hb6 hg6 hz6
              obtain ⟨g9, hg9⟩ : ∃ g, g = W5.heap.size := ⟨_, rfl⟩
              rw [← hg9] at hb6
              rw [← hg9]
              replace hb6 : Blk W6 g9 (dcells ⟨0, [], 0, 0⟩) 47 := hb6
              have HI6 := Lib.hid (HI5.out.step hg6)
              have hg9l : g4 < g9 ∧ w.heap.size ≤ g9 ∧ g1 < g9 ∧ g2 < g9 := by
                have h1 := HI5.out.jour.lt
                have h2 := HI5.out.box.lt
                have h3 := HI5.out.res.lt
                have h4 := HI5.out.grown.size
                omega
              clear hg6 hz6 hg9 HI5
              go_wp2_with ((with_reducible refine law_storew g9 (dcells (d.cut k).1) _ _ ?_ ?_ hb6 ?_ ?_ ?_ ?_); rfl; rfl; rfl; exact dcells_one _; exact Try.sdslab)
              intro W7 hb7 hg7 hz7
              have hbox7 := HI6.out.box.kept hg7 (by simp; omega)
              have hr7 := HI6.out.res.kept hg7 (by simp; omega)
              have HX := Lib.hid (And.intro HI6.out.scan (grown_new HI6.out.grown hg7 (by rintro _ ⟨⟩; exact hg9l.2.1)))
              clear hb6 hg7 hz7 hg9l HI6 hb7
              go_wp2_with (first | ((with_reducible refine law_loadw g1 (dcells d) _ _ ?_ hbox7 hu htd ?_ ?_); rfl; exact Try.sdslab) |
                ((with_reducible refine law_build [(0, .agg (dcells d))] (rjcells d (.slice none 0 0) ⟨[], zero32, false⟩) ?_ ?_ ?_); rfl; kernel_rfl) |
                ((with_reducible refine law_storew g2 (rjcells d (.slice none 0 0) ⟨[], zero32, false⟩) _ _ ?_ ?_ hr7 ?_ ?_ ?_ ?_); rfl; rfl; (rw [rjcells_size _ _ _ rfl, rjcells_size _ _ _ rfl]); exact rjcells_one _ _ _ rfl; (rw [rjcells_size _ _ _ rfl]; exact Try.srjour)))
              intro W9 hb9 hg9 hz9
              have hG9 := grown_new HX.out.2 hg9 (by rintro _ ⟨⟩; have := HOR.out; omega)
              have ho : opened d = (none, d, 90) := by
                have hsc := HX.out.1
                rw [scanA_stop HR.out] at hsc
                simp only [Scv.ahead, List.append_nil, Nat.add_zero] at hsc
                have hcd : (d.cut k).1 = d := by
                  have := HC.out
                  unfold Disk.cut at this ⊢
                  split
                  · rfl
                  · rename_i h; rw [if_neg h] at this; exact absurd this (by simp)
                unfold opened; rw [← HB.out, hsc]; simp only []; rw [if_pos hkl, if_pos (by simp [HC.out]), HC.out, hcd]
              have HE := Lib.hid (And.intro ho hG9)
              clear ho hG9 hg9 hz9 hbox7 hr7
              go_wp2_with fail
              try rw [Exit.noGoto_ret]
              refine bodyPost_ret (results_row2 rfl _ _ g2 52 _ _ _ rfl hb9 huj htj (by rw [rjcells_size _ _ _ rfl]; exact Try.srjour) _ rfl) rfl ?_
              rw [HE.out.1]
              exact ⟨HE.out.2, _, Row.nil _ _ _, rfl⟩
          · exfalso; omega
        · have t2 : ¬ (b.length : Int) - k - 35 < n := by omega
          obtain ⟨data, hdata⟩ : ∃ x, x = (b.drop (k + 35)).take n := ⟨_, rfl⟩
          obtain ⟨rec, hrec⟩ : ∃ x, x = recB last data := ⟨_, rfl⟩
          obtain ⟨tR, htR⟩ : ∃ x, x = (b.drop k).take (35 + n) := ⟨_, rfl⟩
          have hdl : data.length = n := by rw [hdata, List.length_take, List.length_drop]; omega
          have hreq : tR = rec ↔ (lnk last data).take 16 = (b.drop (k + 19)).take 16 := by
            have := rec_eq (b.drop k) last n HD.out.2.2.2.2.2 (by rw [List.length_drop]; omega) (by rw [← HD.out.1, List.drop_drop, ← HR0.out.2.1]; exact HR0.out.1.symm)
            rw [List.drop_drop, List.drop_drop, ← hdata] at this
            rw [htR, hrec]; exact this
          have hrd := HR0.out.2.2
          rw [if_neg (by simp), if_neg hnl2, ← hdata] at hrd
          obtain ⟨_, _, _, c3⟩ := dblk_cells HI5.out.box
          rw [← HB.out] at c3
          have HDA := Lib.hid (And.intro hdata (And.intro hdl (And.intro hrec (And.intro htR (And.intro hreq hrd)))))
          have s35 : IntKind.i64.wrap ((k : Int) + 35) = k + 35 := IntWalk.i64_in _ (by omega)
          have s35n : IntKind.i64.wrap ((k : Int) + 35 + (n : Int)) = k + 35 + n := IntWalk.i64_in _ (by omega)
          clear hdata hdl hrec htR hreq hrd HI
          go_wp2_with ((with_reducible refine law_spart b (k + 35) n ((k : Int) + 35) ((k : Int) + 35 + (n : Int)) data HDA.out.1 ?_ ?_ ?_ ?_ ?_ ?_ Try.ustr ?_); rfl; rfl; rfl; omega; omega; omega)
          have hS6 : Blk W5.drew g1 (dcells d) 47 ∧ Blk W5.drew g4 (rjcells d rv ⟨rs, last, false⟩) 52 := ⟨HI5.out.box, HI5.out.jour⟩
          clear c3
          refine wp_region_held_drew (S := fun w' : World => Blk w' g1 (dcells d) 47 ∧ Blk w' g4 (rjcells d rv ⟨rs, last, false⟩) 52) (by kernel_rfl) hS6 (fun _ => ?_)
          refine anyH_take 0 (some 69) (v := ?_) rfl rfl (by kernel_rfl) (by kernel_rfl) (by kernel_rfl) (fun _ _ _ h => h) (Or.inl ⟨by rfl, ?_⟩) hS6 ?_
          rotate_left
          · intro w _
            go_simp
            try (with_reducible rfl)
          simp only [Act.put, List.setIfInBounds_toArray, List.set_cons_zero, List.set_cons_succ]
          refine anyH_take 1 (some 70) rfl rfl (by kernel_rfl) (by kernel_rfl) (by kernel_rfl) (fun _ _ _ h => h) (yieldsIf_load1 rfl rfl ⟨g1, 3, none⟩ (vs b) _ rfl (fun _ h => by have := (dblk_cells h.1).2.2.2; rw [← HB.out] at this; exact this) Try.nstr rfl) hS6 ?_
          simp only [Act.put, List.setIfInBounds_toArray, List.set_cons_zero, List.set_cons_succ]
          refine anyH_take 2 (some 71) (v := ?_) rfl rfl (by kernel_rfl) (by kernel_rfl) (by kernel_rfl) (fun _ _ _ h => h) (Or.inl ⟨by rfl, ?_⟩) hS6 ?_
          rotate_left
          · intro w _
            go_simp
            try (with_reducible rfl)
          simp only [Act.put, List.setIfInBounds_toArray, List.set_cons_zero, List.set_cons_succ]
          refine anyH_take 3 (some 72) (v := ?_) rfl rfl (by kernel_rfl) (by kernel_rfl) (by kernel_rfl) (fun _ _ _ h => h) (Or.inl ⟨by rfl, ?_⟩) hS6 ?_
          rotate_left
          · intro w _
            go_simp
            try (with_reducible rfl)
          simp only [Act.put, List.setIfInBounds_toArray, List.set_cons_zero, List.set_cons_succ]
          refine anyH_take 4 (some 73) (v := ?_) rfl rfl (by kernel_rfl) (by kernel_rfl) (by kernel_rfl) (fun _ _ _ h => h) (Or.inl ⟨by rfl, ?_⟩) hS6 ?_
          rotate_left
          · intro w _
            go_simp
            try (with_reducible rfl)
          simp only [Act.put, List.setIfInBounds_toArray, List.set_cons_zero, List.set_cons_succ]
          refine anyH_take 5 (some 74) (v := ?_) rfl rfl (by kernel_rfl) (by kernel_rfl) (by kernel_rfl) (fun _ _ _ h => h) (Or.inl ⟨by rfl, ?_⟩) hS6 ?_
          rotate_left
          · intro w _
            go_simp
            try (with_reducible rfl)
          simp only [Act.put, List.setIfInBounds_toArray, List.set_cons_zero, List.set_cons_succ]
          refine anyH_take 6 (some 75) (v := ?_) rfl rfl (by kernel_rfl) (by kernel_rfl) (by kernel_rfl) (fun _ _ _ h => h) (Or.inl ⟨by rfl, ?_⟩) hS6 ?_
          rotate_left
          · intro w _
            go_simp
            try (with_reducible rfl)
          simp only [Act.put, List.setIfInBounds_toArray, List.set_cons_zero, List.set_cons_succ]
          refine anyH_take 7 (some 76) rfl rfl (by kernel_rfl) (by kernel_rfl) (by kernel_rfl) (fun _ _ _ h => h) (yieldsIf_spart' rfl rfl b k (35 + n) (k : Int) ((k : Int) + 35 + (n : Int)) tR HDA.out.2.2.2.1 rfl rfl rfl rfl (by omega) (by omega) Try.ustr) hS6 ?_
          simp only [Act.put, List.setIfInBounds_toArray, List.set_cons_zero, List.set_cons_succ]
          refine anyH_take 8 (some 77) (v := ?_) rfl rfl (by kernel_rfl) (by kernel_rfl) (by kernel_rfl) (fun _ _ _ h => h) (Or.inl ⟨by rfl, ?_⟩) hS6 ?_
          rotate_left
          · intro w _
            go_simp
            try (with_reducible rfl)
          simp only [Act.put, List.setIfInBounds_toArray, List.set_cons_zero, List.set_cons_succ]
          refine anyH_take 9 (some 78) rfl rfl (by kernel_rfl) (by kernel_rfl) (by kernel_rfl) (fun _ _ _ h => h) (yieldsIf_load rfl rfl g4 5 (last.map vb) _ _ _ rfl (fun _ h => h.2) (by intro i hi; rw [List.length_map] at hi; rw [rjcells_last _ _ _ i hi]; simp [List.getD_eq_getElem?_getD, List.getElem?_eq_getElem hi]) Try.uid rfl (by rw [Try.sid, List.length_map, HLL.out])) hS6 ?_
          simp only [Act.put, List.setIfInBounds_toArray, List.set_cons_zero, List.set_cons_succ]
          refine anyH_take 10 (some 79) (v := ?_) rfl rfl (by kernel_rfl) (by kernel_rfl) (by kernel_rfl) (fun _ _ _ h => h) (Or.inl ⟨by rfl, ?_⟩) hS6 ?_
          rotate_left
          · intro w _
            go_simp
            try (with_reducible rfl)
          simp only [Act.put, List.setIfInBounds_toArray, List.set_cons_zero, List.set_cons_succ]
          refine wpAnyH_ready (rs := [11]) (by kernel_rfl) (by simp) ?_
          refine AllReadyH.cons rfl (fun K hK => ?_) AllReadyH.nil
          refine gstep_call (some 80) rfl rfl rfl #[.agg (u8s last), vs data] rfl (fun _ => by simp [go_sem]) (rrecord_calls last data _ HLL.out (by rw [HDA.out.2.1]; omega)) ?_
          rintro _ W8 ⟨rfl, hg8⟩
          rw [← HDA.out.2.2.1]
          have hS8 : Blk W8 g1 (dcells d) 47 ∧ Blk W8 g4 (rjcells d rv ⟨rs, last, false⟩) 52 := ⟨hS6.1.kept hg8 (by simp), hS6.2.kept hg8 (by simp)⟩
          refine ⟨_, rfl, ?_⟩
          refine hK.out _ _ hS8 (fun _ => ?_)
          clear hK K
          simp only [Act.put, List.setIfInBounds_toArray, List.set_cons_zero, List.set_cons_succ]
          refine anyH_take 12 (some 81) rfl rfl (by kernel_rfl) (by kernel_rfl) (by kernel_rfl) (fun _ _ _ h => h) (yieldsIf_sneq rfl rfl tR rec rfl rfl) hS8 ?_
          simp only [Act.put, List.setIfInBounds_toArray, List.set_cons_zero, List.set_cons_succ]
          refine wpAnyH_done (by kernel_rfl) ?_ _

          clear s35 s35n
          have HI8 := Lib.hid ((HI5.out.step (grown_drew W5 none)).step hg8)
          clear hS6 hS8 hg8 HI5
          by_cases heq2 : tR = rec
          · have hrd : rd1 last (b.drop k) = .next data := by rw [HDA.out.2.2.2.2.2, if_neg (by rw [HDA.out.2.2.2.2.1.1 heq2]; simp)]
            have HR := Lib.hid hrd
            clear hrd
            rw [show (!decide (tR = rec)) = false from by simp [heq2]]
            clear heq2
            have hl35 : data.length + 35 ≤ (b.drop k).length := (rd1_next HR.out).2.1
            have crv : W8.cell? ⟨g4, 4, none⟩ = some rv := by rw [HI8.out.jour.cell]; exact rjcells_rv _ _ _
            have hj8 := HI8.out.jour
            have hrow8 := HI8.out.row
            have hs8 : w.heap.size ≤ W8.heap.size := HI8.out.grown.size
            have hone : rv.oneCell' = true := hrow8.one
            obtain ⟨adr, nr, capr, hrv⟩ := hrow8.shape
            subst hrv
            go_wp2_with ((with_reducible refine law_bslice 9 [vs data] Try.ustrs Try.zstr ?_ ?_ ?_ ?_ ?_ ?_); omega; rfl; omega; (intro v hv; rw [List.mem_singleton.1 hv]; rfl); rfl)
            intro W9 hb9 hg9 hz9
            have hsrc9 : SrcAt W9 (.slice (some ⟨W8.heap.size, 0, none⟩) 1 1) [vs data] :=
              ⟨_, 1, rfl, fun i u hu => ⟨_, rfl, by rw [add_at, Nat.zero_add, hb9.cell]; simpa using hu⟩⟩
            have hrow9 := hrow8.grown hg9 (.inl rfl)
            have hlen9 : (rs.map vs).length + [vs data].length ≤ 1099511627776 := by
              have := HI8.out.cnt
              simp only [List.length_map, List.length_singleton]; omega
            have hs9 : w.heap.size ≤ W9.heap.size := Nat.le_trans hs8 hg9.size
            go_wp2_with ((with_reducible refine law_append w.heap.size 9 (vs []) Try.ustrs Try.istr rfl (.slice adr nr capr) _ (rs.map vs) [vs data] ?_ ?_ hrow9 hsrc9 ?_ hlen9 hs9 ?_); rfl; rfl; (intro u hu; rw [List.mem_singleton.1 hu]; rfl))
            intro v10 W10 hr10 hg10 hn10
            have hr10 : Row W10 w.heap.size 9 v10 ((rs ++ [data]).map vs) := by rw [List.map_append]; exact hr10
            have hj10 := (hj8.kept hg9 (by simp)).kept hg10 (fun e => HI8.out.ne.2.2 e.symm)
            have hbox10 := (HI8.out.box.kept hg9 (by simp)).kept hg10 (fun e => HI8.out.ne.1 e.symm)
            have hres10 := (HI8.out.res.kept hg9 (by simp)).kept hg10 (fun e => HI8.out.ne.2.1 e.symm)
            have hG10 := grown_new (grown_trans HI8.out.grown hg9) hg10 (fun q hq => (hrow8.lt q hq).1)
            have hne10 : v10.ownBlock ≠ some g1 ∧ v10.ownBlock ≠ some g2 ∧ v10.ownBlock ≠ some g4 := by
              have h1 := HI8.out.ne
              have l1 := HI8.out.box.lt
              have l2 := HI8.out.res.lt
              have l4 := HI8.out.jour.lt
              have hz := hg9.size
              have key : ∀ q, (Value.slice adr nr capr).ownBlock ≠ some q → q < W8.heap.size → v10.ownBlock ≠ some q := fun q hq hl e => by
                rcases hn10 q e with h | h
                · exact hq h
                · omega
              exact ⟨key g1 h1.1 l1, key g2 h1.2.1 l2, key g4 h1.2.2 l4⟩
            have hone10 := hr10.one
            obtain ⟨ad10, n10, cap10, hv10⟩ := hr10.shape
            subst hv10
            have HX := Lib.hid (And.intro hr10 (And.intro hbox10 (And.intro hres10 (And.intro hG10 hne10))))
            clear hb9 hg9 hz9 hsrc9 hrow9 hlen9 hs9 hr10 hg10 hn10 hbox10 hres10 hG10 hne10 hj8 hrow8 hs8 crv
            go_wp2_with ((with_reducible refine law_store1 g4 4 (.slice ad10 n10 cap10) _ _ ?_ ?_ hj10 ?_ ?_ Try.sstrs ?_); rfl; rfl; (rw [rjcells_size _ _ _ HLL.out]; omega); rfl)
            intro W11 hb11 hg11 hz11
            rw [rjcells_put _ _ _ _ (rs ++ [data])] at hb11
            have HX11 := Lib.hid (And.intro (HX.out.1.grown hg11 (.inr HX.out.2.2.2.2.2.2)) (And.intro (HX.out.2.1.kept hg11 (by have := HOR.out; simp; omega)) (And.intro (HX.out.2.2.1.kept hg11 (by have := HOR.out; simp; omega)) (grown_new HX.out.2.2.2.1 hg11 (by rintro _ ⟨⟩; have := HOR.out; omega)))))
            clear hj10 hg11 hz11
            go_wp2_with ((with_reducible refine law_load g4 5 (last.map vb) _ _ _ ?_ hb11 ?_ Try.uid ?_ ?_ ?_); rfl; (intro i hi; rw [List.length_map] at hi; rw [rjcells_last _ _ _ i hi]; simp [List.getD_eq_getElem?_getD, List.getElem?_eq_getElem hi]); rfl; (rw [Try.sid, List.length_map, HLL.out]))
            refine (rlink_calls last data W11 HLL.out (by have := HDA.out.2.1; omega)).mono ?_
            rintro _ W12 ⟨rfl, hg12⟩
            have hb12 := hb11.kept hg12 (by simp)
            have hll12 := lnk_length last data
            obtain ⟨last2, hlast2⟩ : ∃ x, x = lnk last data := ⟨_, rfl⟩
            rw [← hlast2] at hll12
            rw [← hlast2]
            have HL2 := Lib.hid (And.intro hlast2 hll12)
            have HX12 := Lib.hid (And.intro (HX11.out.1.grown hg12 (.inl rfl)) (And.intro (HX11.out.2.1.kept hg12 (by simp)) (And.intro (HX11.out.2.2.1.kept hg12 (by simp)) (grown_trans HX11.out.2.2.2 hg12))))
            clear hb11 hg12 hlast2 hll12
            go_wp2_with ((with_reducible refine law_store g4 5 (last2.map vb) _ _ ?_ ?_ hb12 ?_ ?_ ?_ ?_); rfl; rfl; (rw [rjcells_size _ _ _ HLL.out, List.length_map, HL2.out.2]; omega); (intro v hv; obtain ⟨b, _, rfl⟩ := List.mem_map.1 hv; rfl); (rw [Try.sid, List.length_map, HL2.out.2]))
            intro W13 hb13 hg13 hz13
            rw [rjcells_layl _ _ _ _ (rs ++ [data]) HLL.out HL2.out.2] at hb13
            have hfin : Try.RInv d b g1 g2 g4 w W13 (k + (35 + data.length)) (rs ++ [data]) last2 (.slice ad10 n10 cap10) := by
              have hsc := HI8.out.scan
              rw [scanA_next HR.out, ahead_ahead, List.drop_drop] at hsc
              have hl2 := hl35
              rw [List.length_drop] at hl2
              refine ⟨by omega, HX12.out.2.1.kept hg13 (by have := HOR.out; simp; omega), HX12.out.2.2.1.kept hg13 (by have := HOR.out; simp; omega), hb13, HX12.out.1.grown hg13 (.inr HX.out.2.2.2.2.2.2), HL2.out.2, ?_, grown_new HX12.out.2.2.2 hg13 (by rintro _ ⟨⟩; have := HOR.out; omega), HX.out.2.2.2.2, ?_⟩
              · rw [HL2.out.1]; exact hsc
              · have := HI8.out.cnt; simp; omega
            have HF := Lib.hid hfin
            clear hb13 hg13 hz13 hfin hb12
            have f1 : (35 : Int) + n = 35 + n := rfl
            go_wp2_with fail
            go_roundw
            case rel =>
              refine ⟨k + (35 + data.length), _, _, _, ?_, HF.out⟩
              rw [HDA.out.2.1]; go_num
            case measure => simp [intOf]; omega
          · have hrd : rd1 last (b.drop k) = .torn := by rw [HDA.out.2.2.2.2.2, if_pos (fun e => heq2 (HDA.out.2.2.2.2.1.2 e))]
            have HR := Lib.hid hrd
            rw [show (!decide (tR = rec)) = true from by simp [heq2]]
            clear heq2 hrd
            have hbox7 := HI8.out.box
            have hr7 := HI8.out.res
            have HX := Lib.hid (And.intro HI8.out.scan HI8.out.grown)
            go_wp2_with (first | ((with_reducible refine law_loadw g1 (dcells d) _ _ ?_ hbox7 hu htd ?_ ?_); rfl; exact Try.sdslab) |
              ((with_reducible refine law_build [(0, .agg (dcells d))] (rjcells d (.slice none 0 0) ⟨[], zero32, false⟩) ?_ ?_ ?_); rfl; kernel_rfl) |
              ((with_reducible refine law_storew g2 (rjcells d (.slice none 0 0) ⟨[], zero32, false⟩) _ _ ?_ ?_ hr7 ?_ ?_ ?_ ?_); rfl; rfl; (rw [rjcells_size _ _ _ rfl, rjcells_size _ _ _ rfl]); exact rjcells_one _ _ _ rfl; (rw [rjcells_size _ _ _ rfl]; exact Try.srjour)))
            intro W9 hb9 hg9 hz9
            have hG9 := grown_new HX.out.2 hg9 (by rintro _ ⟨⟩; have := HOR.out; omega)
            have ho : opened d = (none, d, 100) := by
              have hsc := HX.out.1
              rw [scanA_torn HR.out] at hsc
              unfold opened; rw [← HB.out, hsc]; rfl
            have HE := Lib.hid (And.intro ho hG9)
            clear ho hG9 hg9 hz9 hbox7 hr7
            go_wp2_with fail
            try rw [Exit.noGoto_ret]
            refine bodyPost_ret (results_row2 rfl _ _ g2 52 _ _ _ rfl hb9 huj htj (by rw [rjcells_size _ _ _ rfl]; exact Try.srjour) _ rfl) rfl ?_
            rw [HE.out.1]
            exact ⟨HE.out.2, _, Row.nil _ _ _, rfl⟩
      · have hb1 : ¬ tC = own := fun e => heq e.symm
        rw [show (!decide (tC = own)) = true from by simp [hb1]]
        have hrd : rd1 last (b.drop k) = .torn := by rw [HR0.out.2.2, if_pos heq]
        have HR := Lib.hid hrd
        clear heq hrd
        have hbox7 := HI5.out.box
        have hr7 := HI5.out.res
        have HX := Lib.hid (And.intro HI5.out.scan HI5.out.grown)
        go_wp2_with (first | ((with_reducible refine law_loadw g1 (dcells d) _ _ ?_ hbox7 hu htd ?_ ?_); rfl; exact Try.sdslab) |
          ((with_reducible refine law_build [(0, .agg (dcells d))] (rjcells d (.slice none 0 0) ⟨[], zero32, false⟩) ?_ ?_ ?_); rfl; kernel_rfl) |
          ((with_reducible refine law_storew g2 (rjcells d (.slice none 0 0) ⟨[], zero32, false⟩) _ _ ?_ ?_ hr7 ?_ ?_ ?_ ?_); rfl; rfl; (rw [rjcells_size _ _ _ rfl, rjcells_size _ _ _ rfl]); exact rjcells_one _ _ _ rfl; (rw [rjcells_size _ _ _ rfl]; exact Try.srjour)))
        intro W9 hb9 hg9 hz9
        have hG9 := grown_new HX.out.2 hg9 (by rintro _ ⟨⟩; have := HOR.out; omega)
        have ho : opened d = (none, d, 100) := by
          have hsc := HX.out.1
          rw [scanA_torn HR.out] at hsc
          unfold opened; rw [← HB.out, hsc]; rfl
        have HE := Lib.hid (And.intro ho hG9)
        clear ho hG9 hg9 hz9 hbox7 hr7
        go_wp2_with fail
        try rw [Exit.noGoto_ret]
        refine bodyPost_ret (results_row2 rfl _ _ g2 52 _ _ _ rfl hb9 huj htj (by rw [rjcells_size _ _ _ rfl]; exact Try.srjour) _ rfl) rfl ?_
        rw [HE.out.1]
        exact ⟨HE.out.2, _, Row.nil _ _ _, rfl⟩
end Go.Proofs.Yteicjpjniaohhaa
