/- A slab and a journal upon it, both made since a world w0, as the laws use them. -/
import Derived.Test.YteicjpjniaohhaaSteps2
import Derived.Test.YteicjpjniaohhaaJFull
namespace Go.Proofs.Yteicjpjniaohhaa
open Go.RowKit Go.Shelf Scv
theorem Try.gid : Try.prog.eqGuardType Try.prog.depth 29 = false := by kernel_rfl
/-- a slab that was made since w0 -/
structure Try.Lone (w0 w : World) (g : Nat) (v : Value) (d : Disk) : Prop where
  slab : Try.SlabAt w g v d
  grown : w0.grownBy w none
  new : ∀ k, SFoot g v k → w0.heap.size ≤ k
/-- a journal upon it -/
structure Try.Live (w0 w : World) (g : Nat) (v : Value) (d : Disk) (j : Nat) (rv : Value) (es : List Value) (s : Jour) : Prop where
  lone : Try.Lone w0 w g v d
  jour : Try.JourAt w j g rv es s
  sep : ∀ k, SFoot g v k → ¬ JFoot j rv es k
  newj : ∀ k, JFoot j rv es k → w0.heap.size ≤ k
theorem Try.Lone.step {w0 w W : World} {g : Nat} {v : Value} {d : Disk} (h : Try.Lone w0 w g v d) (hg : w.grownBy W none) : Try.Lone w0 W g v d :=
  ⟨h.slab.same (R := fun _ => True) (Same.of_grown hg (fun _ _ => by simp)) (fun _ _ => trivial), grown_trans h.grown hg, h.new⟩
theorem Try.Live.step {w0 w W : World} {g : Nat} {v : Value} {d : Disk} {j : Nat} {rv : Value} {es : List Value} {s : Jour} (h : Try.Live w0 w g v d j rv es s) (hg : w.grownBy W none) : Try.Live w0 W g v d j rv es s :=
  ⟨h.lone.step hg, h.jour.same (R := fun _ => True) (Same.of_grown hg (fun _ _ => by simp)) (fun _ _ => trivial), h.sep, h.newj⟩
/-- what was there before w0 was never theirs -/
theorem Try.Live.old {w0 w : World} {g : Nat} {v : Value} {d : Disk} {j : Nat} {rv : Value} {es : List Value} {s : Jour} (h : Try.Live w0 w g v d j rv es s) {x : Value} (hx : ∀ k, x.ownBlock = some k → k < w0.heap.size) :
    ∀ k, x.ownBlock = some k → ¬ SFoot g v k ∧ k ≠ j ∧ rv.ownBlock ≠ some k := fun k hk => by
  have hlt := hx k hk
  exact ⟨fun e => by have := h.lone.new k e; omega, fun e => by have := h.newj k (.inl e); omega, fun e => by have := h.newj k (.inr (.inl e)); omega⟩
/-- nor is what comes later -/
theorem Try.Live.later {w0 w : World} {g : Nat} {v : Value} {d : Disk} {j : Nat} {rv : Value} {es : List Value} {s : Jour} (h : Try.Live w0 w g v d j rv es s) {k : Nat} (hk : w.heap.size ≤ k) : ¬ SFoot g v k ∧ ¬ JFoot j rv es k :=
  ⟨fun e => by have := h.lone.slab.lt k e; omega, fun e => by have := h.jour.lt k e; omega⟩
theorem snew_live (w0 : World) (room : Nat) (hr : room ≤ 4194304) (w : World) (hg : w0.grownBy w none) :
    Calls Try.prog 11 #[.int .i64 (room : Int)] w fun e w' => ∃ g, e = .returned (.tuple #[.pointer (some ⟨g, 0, none⟩), .int .i64 0]) ∧ g = w.heap.size ∧ Try.Lone w0 w' g (.slice none 0 0) (full room []) ∧ w.grownBy w' none :=
  (snew_calls room hr w).mono fun e w' h => by
    obtain ⟨h1, h2, h3⟩ := h
    refine ⟨w.heap.size, h1, rfl, ⟨by rw [full_nil]; exact h2, grown_trans hg h3, ?_⟩, h3⟩
    rintro k (rfl | hk)
    · exact hg.size
    · simp [Value.ownBlock] at hk
/-- Open, whatever the slab holds -/
theorem jopen_live {w0 : World} (g : Nat) (v : Value) (d : Disk) (w : World) (h : Try.Lone w0 w g v d) :
    Calls Try.prog 12 #[.pointer (some ⟨g, 0, none⟩)] w fun e w' => ∃ v', Try.Lone w0 w' g v' (opened d).2.1 ∧ Same (fun k => k ≠ g) w w' ∧ v'.ownBlock = v.ownBlock ∧
      ((∃ s, (opened d).1 = some s ∧ (opened d).2.2 = 0 ∧ ∃ j rv es, e = .returned (.tuple #[.pointer (some ⟨j, 0, none⟩), .int .i64 0]) ∧ Try.Live w0 w' g v' (opened d).2.1 j rv es s ∧ ∀ k, JFoot j rv es k → w.heap.size ≤ k) ∨
       ((opened d).1 = none ∧ e = .returned (.tuple #[.pointer none, .int .i64 (opened d).2.2]))) :=
  (jopen_calls g v d w h.slab).mono fun e w' hh => by
    obtain ⟨v', h1, h2, h3, h4⟩ := hh
    have hfoot : ∀ k, SFoot g v' k → SFoot g v k := fun k hk => by
      rcases hk with rfl | hk
      · exact .inl rfl
      · rw [h3] at hk; exact .inr hk
    have hg : w0.grownBy w' none := Same.grown h.grown h2 (fun k hk e => by have := h.new g (.inl rfl); omega)
    have hl : Try.Lone w0 w' g v' (opened d).2.1 := ⟨h1, hg, fun k hk => h.new k (hfoot k hk)⟩
    refine ⟨v', hl, h2, h3, ?_⟩
    cases ho : (opened d).1 with
    | none => rw [ho] at h4; exact .inr ⟨rfl, h4⟩
    | some s =>
      rw [ho] at h4
      obtain ⟨h5, j, rv, es, h6, h7, h8⟩ := h4
      refine .inl ⟨s, rfl, h5, j, rv, es, h6, ⟨hl, h7, fun k hk hj => ?_, fun k hk => ?_⟩, h8⟩
      · have := h.slab.lt k (hfoot k hk); have := h8 k hj; omega
      · have := h8 k hk; have := h.grown.size; omega
/-- Open of a slab with whole records -/
theorem jopen_full {w0 : World} (g : Nat) (v : Value) (room : Nat) (ds : List (List UInt8)) (w : World) (h : Try.Lone w0 w g v (full room ds)) (hd : ∀ d ∈ ds, d.length < 16777216) :
    Calls Try.prog 12 #[.pointer (some ⟨g, 0, none⟩)] w fun e w' => ∃ j rv es v', e = .returned (.tuple #[.pointer (some ⟨j, 0, none⟩), .int .i64 0]) ∧ Try.Live w0 w' g v' (full room ds) j rv es (jfull ds) ∧ Same (fun k => k ≠ g) w w' ∧ (∀ k, JFoot j rv es k → w.heap.size ≤ k) ∧ v'.ownBlock = v.ownBlock :=
  (jopen_live g v (full room ds) w h).mono fun e w' hh => by
    rw [opened_full room ds hd] at hh
    obtain ⟨v', h1, h2, h3, ⟨s, hs, _, j, rv, es, h4, h5, h6⟩ | ⟨hn, _⟩⟩ := hh
    · cases hs; exact ⟨j, rv, es, v', h4, h5, h2, h6, h3⟩
    · cases hn
/-- what Write leaves, in short -/
theorem Try.Live.wrote {w0 w w' : World} {g : Nat} {v : Value} {d : Disk} {j : Nat} {rv : Value} {es : List Value} {s : Jour} (h : Try.Live w0 w g v d j rv es s) {r : Jour × Disk × Int} (hw : Try.Written j g v rv es w w' r) :
    ∃ v' rv' es', Try.Live w0 w' g v' r.2.1 j rv' es' r.1 ∧ Same (fun k => ¬ SFoot g v k ∧ k ≠ j ∧ rv.ownBlock ≠ some k) w w' ∧ (∀ k, SFoot g v' k → SFoot g v k ∨ w.heap.size ≤ k) := by
  obtain ⟨v', rv', es', h1, h2, h3, h4, h5, h6⟩ := hw
  have hz := h.lone.grown.size
  refine ⟨v', rv', es', ⟨⟨h1, ?_, fun k hk => ?_⟩, h2, h6, fun k hk => ?_⟩, h3, h4⟩
  · exact Same.grown h.lone.grown h3 (fun k hk => ⟨fun e => by have := h.lone.new k e; omega, fun e => by have := h.newj k (.inl e); omega, fun e => by have := h.newj k (.inr (.inl e)); omega⟩)
  · rcases h4 k hk with h' | h'
    · exact h.lone.new k h'
    · omega
  · rcases h5 k hk with h' | h'
    · exact h.newj k h'
    · omega
theorem jwrite_live {w0 : World} (g : Nat) (v : Value) (d : Disk) (j : Nat) (rv : Value) (es : List Value) (s : Jour) (x : Value) (data : List UInt8) (w : World) (h : Try.Live w0 w g v d j rv es s) (hx : BytesAt w x data)
    (hxn : data ≠ [] → ∀ k, x.ownBlock = some k → ¬ SFoot g v k ∧ k ≠ j ∧ rv.ownBlock ≠ some k) (hlen : s.records.length < 1099511627776) :
    Calls Try.prog 15 #[.pointer (some ⟨j, 0, none⟩), x] w fun e w' => e = .returned (.int .i64 (s.write d data).2.2) ∧ ∃ v' rv' es', Try.Live w0 w' g v' (s.write d data).2.1 j rv' es' (s.write d data).1 ∧
      Same (fun k => ¬ SFoot g v k ∧ k ≠ j ∧ rv.ownBlock ≠ some k) w w' ∧ (∀ k, SFoot g v' k → SFoot g v k ∨ w.heap.size ≤ k) :=
  (jwrite_calls j g v rv es s d x data w h.lone.slab h.jour h.sep hx hxn hlen).mono fun _ _ hh => ⟨hh.1, h.wrote hh.2⟩
theorem jwrite_full {w0 : World} (g : Nat) (v : Value) (room : Nat) (ds : List (List UInt8)) (j : Nat) (rv : Value) (es : List Value) (x : Value) (data : List UInt8) (w : World) (h : Try.Live w0 w g v (full room ds) j rv es (jfull ds)) (hx : BytesAt w x data)
    (hxn : data ≠ [] → ∀ k, x.ownBlock = some k → ¬ SFoot g v k ∧ k ≠ j ∧ rv.ownBlock ≠ some k) (hlen : ds.length < 1099511627776) (hd : data.length ≤ 262144) (hr : total ds + (35 + data.length) ≤ room) :
    Calls Try.prog 15 #[.pointer (some ⟨j, 0, none⟩), x] w fun e w' => e = .returned (.int .i64 0) ∧ ∃ v' rv' es', Try.Live w0 w' g v' (full room (ds ++ [data])) j rv' es' (jfull (ds ++ [data])) ∧
      Same (fun k => ¬ SFoot g v k ∧ k ≠ j ∧ rv.ownBlock ≠ some k) w w' ∧ (∀ k, SFoot g v' k → SFoot g v k ∨ w.heap.size ≤ k) :=
  (jwrite_live g v (full room ds) j rv es (jfull ds) x data w h hx hxn hlen).mono fun e w' hh => by
    rw [write_full room ds data hd hr] at hh
    exact hh
end Go.Proofs.Yteicjpjniaohhaa
