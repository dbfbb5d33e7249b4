/- A range over a function: what an iterator promises the body of the loop, and the body it; and the statement out of both. The blocks that are the iterator's (or the loop's) own are a set S, which may grow by new blocks. -/
import Derived.Test.YteicjpjniaohhaaBaseIn
namespace Scv
open Go Go.RowKit Go.Shelf

/-- all blocks that were there and meet R are as they were -/
structure Same (R : Nat → Prop) (X Y : World) : Prop where
  os : Y.os = X.os
  tape : Y.tape = X.tape
  output : Y.output = X.output
  size : X.heap.size ≤ Y.heap.size
  block : ∀ j, j < X.heap.size → R j → Y.heap[j]? = X.heap[j]?
theorem Same.refl (R : Nat → Prop) (X : World) : Same R X X := ⟨rfl, rfl, rfl, Nat.le_refl _, fun _ _ _ => rfl⟩
theorem Same.trans {R : Nat → Prop} {X Y Z : World} (h : Same R X Y) (k : Same R Y Z) : Same R X Z :=
  ⟨k.os.trans h.os, k.tape.trans h.tape, k.output.trans h.output, Nat.le_trans h.size k.size, fun j hj hr => (k.block j (Nat.lt_of_lt_of_le hj h.size) hr).trans (h.block j hj hr)⟩
theorem Same.mono {R R' : Nat → Prop} {X Y : World} (h : Same R X Y) (hr : ∀ j, R' j → R j) : Same R' X Y := ⟨h.os, h.tape, h.output, h.size, fun j hj k => h.block j hj (hr j k)⟩
theorem Same.of_grown {R : Nat → Prop} {X Y : World} {r : Option Nat} (h : X.grownBy Y r) (hr : ∀ j, R j → some j ≠ r) : Same R X Y := ⟨h.os, h.tape, h.output, h.size, fun j hj k => h.block j hj (hr j k)⟩
theorem Same.blk {R : Nat → Prop} {X Y : World} (h : Same R X Y) {g : Nat} {cs : Array Value} {t : TypeId} (hb : Blk X g cs t) (hr : R g) : Blk Y g cs t := (h.block g hb.lt hr).trans hb
theorem Same.cell {R : Nat → Prop} {X Y : World} (h : Same R X Y) {p : Addr} {v : Value} (hc : X.cell? p = some v) (hr : R p.block) : Y.cell? p = some v := by
  have hlt : p.block < X.heap.size := block_lt_of_cell hc
  rw [World.cell?_of_block (h.block p.block hlt hr)]; exact hc
theorem Same.get {R : Nat → Prop} {X Y : World} (h : Same R X Y) {g : Nat} {o : Obj} (hb : X.heap[g]? = some o) (hr : R g) : Y.heap[g]? = some o := (h.block g (Array.getElem?_eq_some_iff.1 hb).1 hr).trans hb
theorem Same.putObj {R : Nat → Prop} (X : World) (l : Nat) (o : Obj) (hr : ¬ R l) : Same R X (X.putObj l o) :=
  ⟨rfl, rfl, rfl, by simp [World.putObj], fun j _ hj => World.putObj_heap_other (fun e => hr (e ▸ hj))⟩
theorem Same.alloc {R : Nat → Prop} (X : World) (o : Obj) : Same R X (X.alloc o) := Same.of_grown (World.grownBy_alloc X o none) (fun _ _ => by simp)
theorem Same.grown {R : Nat → Prop} {w X Y : World} (h : w.grownBy X none) (k : Same R X Y) (hr : ∀ j, j < w.heap.size → R j) : w.grownBy Y none :=
  ⟨k.os.trans h.os, k.tape.trans h.tape, k.output.trans h.output, Nat.le_trans h.size k.size, fun j hj hn => (k.block j (Nat.lt_of_lt_of_le hj h.size) (hr j hj)).trans (h.block j hj hn)⟩

abbrev Own1 := Nat → Prop
/-- what is said minds no change in the blocks of S, and no new block -/
def Minds (J : Own1 → Nat → World → Prop) : Prop :=
  (∀ S k X Y, J S k X → Same (fun j => ¬ S j) X Y → J S k Y) ∧ (∀ (S : Own1) k X g, J S k X → X.heap.size ≤ g → J (fun j => S j ∨ j = g) k X)
def plus (S : Own1) (g : Nat) : Own1 := fun j => S j ∨ j = g

/-- THE ITERATOR: called with yield in a world that is as w0 was, it hands N things, one after the other; A k args X: what the k-th is. Rd: the old blocks that it reads. S: the blocks of its own, made since it was called. -/
def Iter (P : Program) (gf : Nat) (lb : Array Value) (N : Nat) (A : Nat → Array Value → World → Prop) (Rd : Nat → Prop) (w0 : World) : Prop :=
  ∀ (l : Nat) (W : World) (J Jx : Own1 → Nat → World → Prop), w0.grownBy W none → Minds J → Minds Jx →
    (∀ (S : Own1) k args X, k < N → J S k X → A k args X → Same Rd w0 X →
      YieldAt Fence.wide 0 P l args X fun e Y => Same (fun j => Rd j ∨ S j) X Y ∧ ((e = .returned (.bool true) ∧ J S (k + 1) Y) ∨ (e = .returned (.bool false) ∧ Jx S k Y))) →
    J (fun _ => False) 0 W →
    CallsIn Fence.wide 0 P gf (#[.func (.yield l) #[] #[]] ++ lb) W fun e Y => (∃ v, e = .returned v) ∧ ∃ S : Own1, (J S N Y ∨ ∃ k, k < N ∧ Jx S k Y)

/-- how the body of a round may be left -/
def roundEnd (R : Nat → Prop) (I : Own1 → Nat → World → Prop) (Ix : Code → Own1 → Nat → World → Prop) (S : Own1) (k : Nat) (X : World) : Exit → Act → World → Prop
  | .normal, _, Y => Same R X Y ∧ I S (k + 1) Y
  | .ret, _, Y => Same R X Y ∧ Ix .ret S k Y
  | .exit id, _, Y => Same R X Y ∧ Ix (.exit id) S k Y
  | .goto t, _, Y => Same R X Y ∧ Ix (.goto t) S k Y
  | .panic _, _, _ => False
  | .outgrown, _, _ => False

/-- THE STATEMENT 'for .. := range g { .. }', outside of any other such loop. -/
theorem wp_range {P : Program} {g : Operand} {ps : Array Tmp} {assign body : Code} {Q : Exit → Act → World → Prop} {a : Act} {w : World}
    {gf : Nat} {lb : Array Value} (hg : a.eval g = .func (.func gf) #[] lb) (eg : ∀ args w, (callFunc gf args).run P w = .ok (.enter gf args) w)
    {N : Nat} {A : Nat → Array Value → World → Prop} {Rd : Nat → Prop} {w0 : World} (hit : Iter P gf lb N A Rd w0) (hw0 : w0.grownBy w none) (hRd : ∀ j, Rd j → j < w0.heap.size)
    (hps : ∀ k args X, A k args X → args.size = ps.size)
    (I : Own1 → Nat → World → Prop) (Ix : Code → Own1 → Nat → World → Prop) (hI : Minds I) (hIx : ∀ c, Minds (Ix c)) (h0 : I (fun _ => False) 0 w)
    (hround : ∀ (l : Nat) (S : Own1) (k : Nat) (args : Array Value) (X : World), w.heap.size ≤ l → l < X.heap.size → S l → k < N → I S k X → A k args X → Same Rd w0 X →
      assign.wpIn (Fence.wide.inRound l) 0 P (Exit.then (fun a1 X1 => Same (fun j => Rd j ∨ S j) X X1 ∧ ∀ X2, X2.heap.size = X1.heap.size → Same (fun j => j ≠ l) X1 X2 →
        body.wpIn (Fence.wide.inRound l) 0 P (roundEnd (fun j => Rd j ∨ S j) I Ix S k X2) a1 X2) (fun _ _ _ => False)) { tmps := (ps.zip args).foldl (fun t (p, v) => t.setIfInBounds p v) a.tmps, defers := [] } X)
    (hdone : ∀ (D : Nat) (S : Own1) (Y : World), w.heap.size ≤ D → S D → I S N Y → Y.heap[D]? = some (.deferred (some [])) → Q .normal { a with defers := { target := .collected D, args := #[] } :: a.defers } Y)
    (hstop : ∀ (D : Nat) (c : Code) (S : Own1) (k : Nat) (Y : World), w.heap.size ≤ D → S D → k < N → Ix c S k Y → Y.heap[D]? = some (.deferred (some [])) →
      c.wpIn Fence.wide 0 P Q { a with defers := { target := .collected D, args := #[] } :: a.defers } Y) :
    (Code.rangeFunc g ps assign body).wpIn Fence.wide 0 P Q a w := by
  refine wpIn_rangeFunc ?_
  intro fn hfn
  have hro : Fence.wide.round = none := rfl
  rw [hro]
  obtain ⟨rec, hrec⟩ : ∃ rec : LoopState → Option Code → Loop, rec = fun st pe => { state := st, pending := pe, fn, tmps := a.tmps, params := ps, assign, body, defers := w.heap.size } := ⟨_, rfl⟩
  obtain ⟨W1, hW1⟩ : ∃ W1, (w.alloc (.deferred (some []))).alloc (.loop (rec .ready none)) = W1 := ⟨_, rfl⟩
  have hL1 : W1.heap[w.heap.size + 1]? = some (.loop (rec .ready none)) := by
    rw [← hW1]; have := heap_alloc_new (w.alloc (.deferred (some []))) (.loop (rec .ready none)); rwa [World.size_alloc] at this
  have hK1 : W1.heap[w.heap.size]? = some (.deferred (some [])) := by
    rw [← hW1]; exact (Below.heap_alloc _ _ _ (by simp)).trans (heap_alloc_new w _)
  obtain ⟨S0, hS0⟩ : ∃ S0 : Own1, S0 = fun j => (False ∨ j = w.heap.size) ∨ j = w.heap.size + 1 := ⟨_, rfl⟩
  have hI1 : I S0 0 W1 := by
    rw [← hW1, hS0]
    have h1 := hI.2 _ _ _ _ (hI.2 _ _ _ _ h0 (Nat.le_refl _)) (show w.heap.size ≤ w.heap.size + 1 by omega)
    exact hI.1 _ _ _ _ h1 ((Same.alloc w _).trans (Same.alloc _ _))
  have hg1 : w0.grownBy W1 none := by rw [← hW1]; exact grown_trans (grown_trans hw0 (World.grownBy_alloc _ _ none)) (World.grownBy_alloc _ _ none)
  have hSD : S0 w.heap.size := by rw [hS0]; exact .inl (.inr rfl)
  have hSl : S0 (w.heap.size + 1) := by rw [hS0]; exact .inr rfl
  have hlR : ¬ Rd (w.heap.size + 1) := fun h => by have := hRd _ h; have := hw0.size; omega
  refine ⟨w.heap.size + 1, [{ target := .collected w.heap.size, args := #[] }], W1, { target := .fn (.func gf) lb, args := #[.func (.yield (w.heap.size + 1)) #[] #[]] }, W1, gf,
    #[.func (.yield (w.heap.size + 1)) #[] #[]] ++ lb, W1, ?_, ?_, ?_, ?_, fun h => by simp [Fence.wide] at h, ?_⟩
  · rw [← hW1, hrec]; exact run_enterLoop_outer _ _ _ _ _
  · simp only [resolve, hg]
    simp [go_sem]
  · intro f' _; exact trivial
  · simp [invoke, go_sem, eg]
  · have hsw : ∀ (S : Own1) (g : Nat), (fun j => (S j ∨ S0 j) ∨ j = g) = (fun j => (S j ∨ j = g) ∨ S0 j) := fun S g => by
      funext j; exact propext ⟨fun h => by rcases h with (h | h) | h; exact .inl (.inl h); exact .inr h; exact .inl (.inr h), fun h => by rcases h with (h | h) | h; exact .inl (.inl h); exact .inr h; exact .inl (.inr h)⟩
    have minds : ∀ (I' : Own1 → Nat → World → Prop) (r : Option Code → LoopState) (c : Option Code), Minds I' →
        Minds (fun S k W => I' (fun j => S j ∨ S0 j) k W ∧ W.heap[w.heap.size + 1]? = some (.loop (rec (r c) c)) ∧ W.heap[w.heap.size]? = some (.deferred (some [])) ∧ ¬ S (w.heap.size + 1) ∧ ¬ S w.heap.size) := by
      intro I' r c hI'
      refine ⟨?_, ?_⟩
      · rintro S k X Y ⟨h1, h2, h3, h4, h5⟩ hs
        exact ⟨hI'.1 _ _ _ _ h1 (hs.mono fun j hj hS => hj (.inl hS)), hs.get h2 h4, hs.get h3 h5, h4, h5⟩
      · rintro S k X g ⟨h1, h2, h3, h4, h5⟩ hg
        refine ⟨by rw [← hsw]; exact hI'.2 _ _ _ _ h1 hg, h2, h3, ?_, ?_⟩
        · rintro (h | h)
          · exact h4 h
          · have := (Array.getElem?_eq_some_iff.1 h2).1; omega
        · rintro (h | h)
          · exact h5 h
          · have := (Array.getElem?_eq_some_iff.1 h3).1; omega
    have hz : (fun j => False ∨ S0 j) = S0 := by funext j; simp
    refine (hit (w.heap.size + 1) W1
      (fun S k W => I (fun j => S j ∨ S0 j) k W ∧ W.heap[w.heap.size + 1]? = some (.loop (rec .ready none)) ∧ W.heap[w.heap.size]? = some (.deferred (some [])) ∧ ¬ S (w.heap.size + 1) ∧ ¬ S w.heap.size)
      (fun S k W => ∃ c, Ix c (fun j => S j ∨ S0 j) k W ∧ W.heap[w.heap.size + 1]? = some (.loop (rec .done (some c))) ∧ W.heap[w.heap.size]? = some (.deferred (some [])) ∧ ¬ S (w.heap.size + 1) ∧ ¬ S w.heap.size)
      hg1 (minds I (fun _ => .ready) none hI) ?_ ?_ ⟨by rw [hz]; exact hI1, hL1, hK1, id, id⟩).mono ?_
    · refine ⟨?_, ?_⟩
      · rintro S k X Y ⟨c, h⟩ hs
        exact ⟨c, (minds (Ix c) (fun _ => .done) (some c) (hIx c)).1 S k X Y h hs⟩
      · rintro S k X g ⟨c, h⟩ hg
        exact ⟨c, (minds (Ix c) (fun _ => .done) (some c) (hIx c)).2 S k X g h hg⟩
    · -- ONE ROUND
      rintro S k args X hk ⟨hi, hl, hD, hSl', hSD'⟩ hA hRd0
      have hy := run_yield (P := P) (args := args) hl (by rw [hrec]; exact hps k args X hA)
      rw [hrec] at hy
      refine ⟨fn, _, assign, body, hy, roundIn_of_wpIn hfn (wpIn_mono (hround (w.heap.size + 1) (fun j => S j ∨ S0 j) k args X (by omega) (Array.getElem?_eq_some_iff.1 hl).1 (.inr hSl) hk hi hA hRd0) ?_)⟩
      rintro e a1 X1 hp
      cases e with
      | normal =>
        obtain ⟨hs1, hbody⟩ := hp
        have hl1 : X1.heap[w.heap.size + 1]? = some (.loop (rec .ready none)) := hs1.get hl (.inr (.inr hSl))
        have hD1 : X1.heap[w.heap.size]? = some (.deferred (some [])) := hs1.get hD (.inr (.inr hSD))
        refine ⟨_, run_beginRound hl1 (by rw [hrec]), ?_⟩
        obtain ⟨X2, hX2⟩ : ∃ X2, X1.putObj (w.heap.size + 1) (.loop { rec .ready none with state := .busy }) = X2 := ⟨_, rfl⟩
        have hs2 : Same (fun j => j ≠ w.heap.size + 1) X1 X2 := by rw [← hX2]; exact Same.putObj X1 _ _ (by simp)
        have hz2 : X2.heap.size = X1.heap.size := by rw [← hX2]; simp [World.putObj]
        have hl2 : X2.heap[w.heap.size + 1]? = some (.loop { rec .ready none with state := .busy }) := by rw [← hX2]; exact World.putObj_heap_same (Array.getElem?_eq_some_iff.1 hl1).1
        have hD2 : X2.heap[w.heap.size]? = some (.deferred (some [])) := hs2.get hD1 (by omega)
        rw [hX2]
        refine wpIn_mono (hbody X2 hz2 hs2) ?_
        have fin : ∀ (jump : Option Code) (W3 : World), Same (fun j => Rd j ∨ (S j ∨ S0 j)) X2 W3 →
            (Instr.endRound (w.heap.size + 1) jump).run P W3 = .ok (.bool jump.isNone) (W3.putObj (w.heap.size + 1) (.loop (rec (if jump.isNone then .ready else .done) jump))) ∧
            (W3.putObj (w.heap.size + 1) (.loop (rec (if jump.isNone then .ready else .done) jump))).heap[w.heap.size + 1]? = some (.loop (rec (if jump.isNone then .ready else .done) jump)) ∧
            (W3.putObj (w.heap.size + 1) (.loop (rec (if jump.isNone then .ready else .done) jump))).heap[w.heap.size]? = some (.deferred (some [])) ∧
            Same (fun j => Rd j ∨ S j) X (W3.putObj (w.heap.size + 1) (.loop (rec (if jump.isNone then .ready else .done) jump))) ∧
            Same (fun j => ¬ (S j ∨ S0 j)) W3 (W3.putObj (w.heap.size + 1) (.loop (rec (if jump.isNone then .ready else .done) jump))) := fun jump W3 hk3 => by
          have hl3 := hk3.get hl2 (.inr (.inr hSl))
          have hD3 := hk3.get hD2 (.inr (.inr hSD))
          have := run_endRound (P := P) jump hl3
          rw [hrec] at this ⊢
          refine ⟨this, World.putObj_heap_same (Array.getElem?_eq_some_iff.1 hl3).1, (World.putObj_heap_other (by omega)).trans hD3, ?_, Same.putObj _ _ _ (fun h => h (.inr hSl))⟩
          have n1 : ∀ j, (Rd j ∨ S j) → j ≠ w.heap.size + 1 := fun j hj e => by
            subst e
            rcases hj with h | h
            · exact hlR h
            · exact hSl' h
          exact (((hs1.mono fun j hj => hj.elim .inl fun h => .inr (.inl h)).trans (hs2.mono n1)).trans (hk3.mono fun j hj => hj.elim .inl fun h => .inr (.inl h))).trans (Same.putObj _ _ _ (fun h => n1 _ h rfl))
        rintro e a3 W3 hp
        cases e with
        | normal =>
          obtain ⟨hk3, hi3⟩ := hp
          obtain ⟨hr, hl4, hD4, hsame, hs4⟩ := fin none W3 hk3
          exact ⟨_, _, hr, hsame, .inl ⟨rfl, hI.1 _ _ _ _ hi3 hs4, hl4, hD4, hSl', hSD'⟩⟩
        | ret =>
          obtain ⟨hk3, hi3⟩ := hp
          obtain ⟨hr, hl4, hD4, hsame, hs4⟩ := fin (some .ret) W3 hk3
          exact ⟨_, _, hr, hsame, .inr ⟨rfl, .ret, (hIx _).1 _ _ _ _ hi3 hs4, hl4, hD4, hSl', hSD'⟩⟩
        | exit id =>
          obtain ⟨hk3, hi3⟩ := hp
          obtain ⟨hr, hl4, hD4, hsame, hs4⟩ := fin (some (.exit id)) W3 hk3
          exact ⟨_, _, hr, hsame, .inr ⟨rfl, .exit id, (hIx _).1 _ _ _ _ hi3 hs4, hl4, hD4, hSl', hSD'⟩⟩
        | goto t =>
          obtain ⟨hk3, hi3⟩ := hp
          obtain ⟨hr, hl4, hD4, hsame, hs4⟩ := fin (some (.goto t)) W3 hk3
          exact ⟨_, _, hr, hsame, .inr ⟨rfl, .goto t, (hIx _).1 _ _ _ _ hi3 hs4, hl4, hD4, hSl', hSD'⟩⟩
        | panic ch => exact hp.elim
        | outgrown => exact hp.elim
      | ret => exact hp.elim
      | exit id => exact hp.elim
      | goto t => exact hp.elim
      | panic ch => exact hp.elim
      | outgrown => exact hp.elim
    · -- BEHIND THE ITERATOR
      rintro e W2 ⟨⟨v, rfl⟩, S, (⟨hi, hl, hD, hSl', hSD'⟩ | ⟨k, hk, c, hi, hl, hD, hSl', hSD'⟩)⟩
      · refine ⟨none, _, by have := run_endLoop (P := P) hl (by rw [hrec]; simp); rw [hrec] at this; exact this, ?_⟩
        exact hdone _ (fun j => S j ∨ S0 j) _ (Nat.le_refl _) (.inr hSD) (hI.1 _ _ _ _ hi (Same.putObj _ _ _ (fun h => h (.inr hSl)))) ((World.putObj_heap_other (by omega)).trans hD)
      · refine ⟨some c, _, by have := run_endLoop (P := P) hl (by rw [hrec]; simp); rw [hrec] at this; exact this, ?_⟩
        exact hstop _ c (fun j => S j ∨ S0 j) k _ (Nat.le_refl _) (.inr hSD) hk ((hIx c).1 _ _ _ _ hi (Same.putObj _ _ _ (fun h => h (.inr hSl)))) ((World.putObj_heap_other (by omega)).trans hD)
end Scv
