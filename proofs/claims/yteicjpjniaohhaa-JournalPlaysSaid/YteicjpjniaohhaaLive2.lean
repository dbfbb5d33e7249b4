/- Two journals side by side; slices that are made. -/
import Derived.Test.YteicjpjniaohhaaWrites
import Derived.OwnWalk
namespace Scv
open Go Go.RowKit
section
variable {P : Program} {ops : Array Oper} {Q : Exit → Act → World → Prop} {a : Act} {w : World} {rest : List Oper} {dst : Option Tmp} {ty0 : TypeId} {pos : String} {after : Array Edge}
/-- make of elements of one cell -/
theorem law_make {t : TypeId} {l c : Operand} (e : TypeId) (z : Value) (ht : P.underlying t = some (.slice e)) (hi : (P.info? e).map (fun i => (i.size, decide (i.bytes ≤ 128), i.zero)) = some (1, true, some z)) (hzs : z.cells = #[z]) (n : Nat) (kl kc : IntKind)
    (hl : a.eval l = .int kl (n : Int)) (hc : a.eval c = .int kc (n : Int)) (hn : n ≤ 1099511627776)
    (k : ∀ W, Row W w.heap.size e (.slice (some ⟨w.heap.size, 0, none⟩) n n) (List.replicate n z) → w.grownBy W none → wpList P ops Q rest (a.put dst (.slice (some ⟨w.heap.size, 0, none⟩) n n)) W) :
    wpList P ops Q ({ dst, op := .makeSlice t l c, type := ty0, pos, after, guard := none } :: rest) a w := by
  cases hq : P.info? e with
  | none => simp [hq] at hi
  | some i =>
    simp only [hq, Option.map_some, Option.some.injEq, Prod.mk.injEq, decide_eq_true_eq] at hi
    refine wpList_make_full w rfl l c t rfl w.heap.size e i z 1 ht hq hi.2.2 hi.1 kl kc n n n hl hc rfl rfl (Nat.le_trans (Nat.mul_le_mul hi.2.1 hn) (by omega)) (by unfold maxLen; omega) (Nat.le_refl _) (fun W hr hg => k W ?_ hg)
    obtain ⟨_, h | ⟨g, cap, cur, hv, hb, hh, h1, h2, h3, h4⟩⟩ := hr
    · exact absurd h.1 (by simp)
    · cases hv
      rw [hzs, Nat.mul_one, toList_madeCells_one] at h4
      exact .inr ⟨w.heap.size, n, cur, (0, 0), by simp, Nat.le_refl _, hh, .inl ⟨rfl, rfl⟩, by simp, h2, by simpa using h3, by simpa using h4⟩
end
theorem take_snoc' (ls : List (List UInt8)) (k : Nat) (h : k < ls.length) : ls.take (k + 1) = ls.take k ++ [ls.getD k []] := by
  rw [List.take_succ_eq_append_getElem h, List.getD_eq_getElem?_getD, List.getElem?_eq_getElem h]; rfl
end Scv
namespace Go.Proofs.Yteicjpjniaohhaa
open Go.RowKit Go.Shelf Scv
theorem Try.Lone.far {w0 w W : World} {R : Nat → Prop} {g : Nat} {v : Value} {d : Disk} (h : Try.Lone w0 w g v d) (hs : Same R w W) (hr : ∀ k, SFoot g v k → R k) (hg : w0.grownBy W none) : Try.Lone w0 W g v d := ⟨h.slab.same hs hr, hg, h.new⟩
theorem Try.Live.far {w0 w W : World} {R : Nat → Prop} {g : Nat} {v : Value} {d : Disk} {j : Nat} {rv : Value} {es : List Value} {s : Jour} (h : Try.Live w0 w g v d j rv es s) (hs : Same R w W) (hr : ∀ k, SFoot g v k ∨ JFoot j rv es k → R k)
    (hg : w0.grownBy W none) : Try.Live w0 W g v d j rv es s :=
  ⟨h.lone.far hs (fun k hk => hr k (.inl hk)) hg, h.jour.same hs (fun k hk => hr k (.inr hk)), h.sep, h.newj⟩
theorem jwrite_live2 {w0 : World} (g : Nat) (v : Value) (d : Disk) (j : Nat) (rv : Value) (es : List Value) (s : Jour) (x : Value) (data : List UInt8) (w : World) (h : Try.Live w0 w g v d j rv es s) (hx : BytesAt w x data)
    (hxn : data ≠ [] → ∀ k, x.ownBlock = some k → ¬ SFoot g v k ∧ k ≠ j ∧ rv.ownBlock ≠ some k) (hlen : s.records.length < 1099511627776) :
    Calls Try.prog 15 #[.pointer (some ⟨j, 0, none⟩), x] w fun e w' => e = .returned (.int .i64 (s.write d data).2.2) ∧ ∃ v' rv' es', Try.Live w0 w' g v' (s.write d data).2.1 j rv' es' (s.write d data).1 ∧
      Same (fun k => ¬ SFoot g v k ∧ k ≠ j ∧ rv.ownBlock ≠ some k) w w' ∧ (∀ k, SFoot g v' k → SFoot g v k ∨ w.heap.size ≤ k) ∧ (∀ k, JFoot j rv' es' k → JFoot j rv es k ∨ w.heap.size ≤ k) :=
  (jwrite_calls j g v rv es s d x data w h.lone.slab h.jour h.sep hx hxn hlen).mono fun e w' hh => by
    obtain ⟨he, v', rv', es', h1, h2, h3, h4, h5, h6⟩ := hh
    have hz := h.lone.grown.size
    refine ⟨he, v', rv', es', ⟨⟨h1, ?_, fun k hk => ?_⟩, h2, h6, fun k hk => ?_⟩, h3, h4, h5⟩
    · exact Same.grown h.lone.grown h3 (fun k hk => ⟨fun e => by have := h.lone.new k e; omega, fun e => by have := h.newj k (.inl e); omega, fun e => by have := h.newj k (.inr (.inl e)); omega⟩)
    · rcases h4 k hk with h' | h'
      · exact h.lone.new k h'
      · omega
    · rcases h5 k hk with h' | h'
      · exact h.newj k h'
      · omega
/-- two journals, of which neither has a block of the other's -/
structure Try.Pair (w0 w : World) (g1 : Nat) (v1 : Value) (d1 : Disk) (j1 : Nat) (rv1 : Value) (es1 : List Value) (s1 : Jour) (g2 : Nat) (v2 : Value) (d2 : Disk) (j2 : Nat) (rv2 : Value) (es2 : List Value) (s2 : Jour) : Prop where
  one : Try.Live w0 w g1 v1 d1 j1 rv1 es1 s1
  two : Try.Live w0 w g2 v2 d2 j2 rv2 es2 s2
  sep : ∀ k, (SFoot g1 v1 k ∨ JFoot j1 rv1 es1 k) → ¬ (SFoot g2 v2 k ∨ JFoot j2 rv2 es2 k)
theorem Try.Pair.swap {w0 w : World} {g1 : Nat} {v1 : Value} {d1 : Disk} {j1 : Nat} {rv1 : Value} {es1 : List Value} {s1 : Jour} {g2 : Nat} {v2 : Value} {d2 : Disk} {j2 : Nat} {rv2 : Value} {es2 : List Value} {s2 : Jour}
    (h : Try.Pair w0 w g1 v1 d1 j1 rv1 es1 s1 g2 v2 d2 j2 rv2 es2 s2) : Try.Pair w0 w g2 v2 d2 j2 rv2 es2 s2 g1 v1 d1 j1 rv1 es1 s1 := ⟨h.two, h.one, fun k h2 h1 => h.sep k h1 h2⟩
theorem Try.Pair.step {w0 w W : World} {g1 : Nat} {v1 : Value} {d1 : Disk} {j1 : Nat} {rv1 : Value} {es1 : List Value} {s1 : Jour} {g2 : Nat} {v2 : Value} {d2 : Disk} {j2 : Nat} {rv2 : Value} {es2 : List Value} {s2 : Jour}
    (h : Try.Pair w0 w g1 v1 d1 j1 rv1 es1 s1 g2 v2 d2 j2 rv2 es2 s2) (hg : w.grownBy W none) : Try.Pair w0 W g1 v1 d1 j1 rv1 es1 s1 g2 v2 d2 j2 rv2 es2 s2 := ⟨h.one.step hg, h.two.step hg, h.sep⟩
/-- one of two is written -/
theorem jwrite_pair {w0 : World} {g1 : Nat} {v1 : Value} {d1 : Disk} {j1 : Nat} {rv1 : Value} {es1 : List Value} {s1 : Jour} {g2 : Nat} {v2 : Value} {d2 : Disk} {j2 : Nat} {rv2 : Value} {es2 : List Value} {s2 : Jour} (x : Value) (data : List UInt8) (w : World)
    (h : Try.Pair w0 w g1 v1 d1 j1 rv1 es1 s1 g2 v2 d2 j2 rv2 es2 s2) (hx : BytesAt w x data) (hxn : data ≠ [] → ∀ k, x.ownBlock = some k → k < w0.heap.size) (hlen : s1.records.length < 1099511627776) :
    Calls Try.prog 15 #[.pointer (some ⟨j1, 0, none⟩), x] w fun e w' => e = .returned (.int .i64 (s1.write d1 data).2.2) ∧ ∃ v' rv' es', Try.Pair w0 w' g1 v' (s1.write d1 data).2.1 j1 rv' es' (s1.write d1 data).1 g2 v2 d2 j2 rv2 es2 s2 :=
  (jwrite_live2 g1 v1 d1 j1 rv1 es1 s1 x data w h.one hx (fun hd => h.one.old (hxn hd)) hlen).mono fun e w' hh => by
    obtain ⟨he, v', rv', es', h1, h2, h3, h4⟩ := hh
    have hlt : ∀ k, (SFoot g2 v2 k ∨ JFoot j2 rv2 es2 k) → k < w.heap.size := fun k hk => by
      rcases hk with hk | hk
      · exact h.two.lone.slab.lt k hk
      · exact h.two.jour.lt k hk
    refine ⟨he, v', rv', es', h1, h.two.far h2 (fun k hk => ⟨fun e => h.sep k (.inl e) hk, fun e => h.sep k (.inr (.inl e)) hk, fun e => h.sep k (.inr (.inr (.inl e))) hk⟩) h1.lone.grown, fun k hk h2 => ?_⟩
    have := hlt k h2
    rcases hk with hk | hk
    · rcases h3 k hk with h' | h'
      · exact h.sep k (.inl h') h2
      · omega
    · rcases h4 k hk with h' | h'
      · exact h.sep k (.inr h') h2
      · omega
end Go.Proofs.Yteicjpjniaohhaa
