/- JournalOwn: the walk. -/
import Derived.Test.YteicjpjniaohhaaAgain
import Derived.Test.YteicjpjniaohhaaRLink
set_option linter.unusedVariables false
set_option linter.unusedSimpArgs false
namespace Scv
open Go Go.RowKit
/-- a byte of a row of the call's own is another one -/
theorem Row.put {w : World} {base : Nat} {e : TypeId} {v : Value} {l : List UInt8} (h : Row w base e v (l.map vb)) (q : Nat) (hq : q < l.length) : ∃ g cap, v = .slice (some ⟨g, 0, none⟩) l.length cap ∧ base ≤ g ∧ g < w.heap.size ∧
    w.cell? ⟨g, q, none⟩ = some (.int .u8 (byt l q : Int)) ∧ w.frozen? ⟨g, q, none⟩ = false ∧ ∀ x : UInt8, Row (w.setCell ⟨g, q, none⟩ (vb x)) base e v ((l.set q x).map vb) := by
  rcases h with ⟨_, he⟩ | ⟨g, cap, cur, fr, rfl, h1, h2, h3, h4, h5, h6, h7⟩
  · have : l = [] := by simpa using he
    subst this; simp at hq
  · rw [List.length_map] at h4 h7
    refine ⟨g, cap, by rw [List.length_map], h1, (Array.getElem?_eq_some_iff.1 h2).1, ?_, ?_, fun x => ?_⟩
    · have e1 : cur[q]? = some (vb l[q]) := by
        have : (cur.toList.take l.length)[q]? = (l.map vb)[q]? := by rw [h7]
        rw [List.getElem?_take, if_pos hq] at this
        simpa [List.getElem?_eq_getElem hq] using this
      simp [World.cell?, h2, e1, byt, List.getD_eq_getElem?_getD, List.getElem?_eq_getElem hq]
    · simp only [World.frozen?, h2]
      rcases h3 with ⟨h, h'⟩ | h
      · simp [h, h']
      · simp; omega
    · have hset : (w.setCell ⟨g, q, none⟩ (vb x)).heap[g]? = some (.cells (cur.setIfInBounds q (vb x)) e fr) := by
        obtain ⟨hlt, hk⟩ := Array.getElem?_eq_some_iff.1 h2
        show (w.heap.modify g _)[g]? = _
        rw [Array.getElem?_eq_getElem (by rw [Array.size_modify]; exact hlt), Array.getElem_modify_self, hk]
        rfl
      refine .inr ⟨g, cap, _, fr, ?_, h1, hset, by simpa using h3, ?_, h5, by simpa using h6, ?_⟩
      · simp
      · simp; omega
      · simp only [List.length_map, List.length_set, Array.toList_setIfInBounds]
        rw [List.take_set, h7, List.map_set]
theorem vb_mod (n : Nat) : (.int .u8 (((n : Int) + 1) % 256) : Value) = vb (b8 (n + 1)) := by
  unfold vb b8
  rw [UInt8.toNat_ofNat']
  congr 1
section
variable {P : Program} {ops : Array Oper} {a : Act}
theorem run_bstring {w : World} {src t e : TypeId} {v : Value} {l : List UInt8} (hb : BytesAt w v l) (hs : P.underlying src = some (.slice e)) (he : P.underlying e = some (.int .u8)) (hd : P.underlying t = some .string) :
    (convert src t v).run P w = .ok (vs l) w := by
  obtain ⟨ad, cap, rfl, rfl | ⟨b, o, rfl, hc⟩⟩ := hb
  · rw [List.length_nil, run_convert_bytes_string w src t e ad 0 cap hs he hd]
    cases ad <;> simp [Conv.bytesToString, loadCells]
    all_goals rfl
  · refine run_convert_bytes_back w src t e ⟨b, o, none⟩ cap l hs he hd (fun j hj => ?_)
    rw [add_at, hc j hj]
    simp [byt, List.getD_eq_getElem?_getD, List.getElem?_eq_getElem hj]
/-- a string out of bytes, in each world of S -/
theorem yieldsIf_bstring {S : World → Prop} {src t : TypeId} {x : Operand} {oi : Oper} (hop : oi.op = .convert src t x) (hw : Region.wanted oi (yielded ops a.tmps) = true) (v : Value) (l : List UInt8) (e : TypeId) (hx : a.eval x = v) (hb : ∀ w, S w → BytesAt w v l)
    (hs : P.underlying src = some (.slice e)) (he : P.underlying e = some (.int .u8)) (hd : P.underlying t = some .string) : YieldsIf P ops S oi (vs l) a :=
  .inl ⟨hw, fun w hS => by
    unfold execOp
    simp only [hop, hx, Sem.run_bind, run_bstring (hb w hS) hs he hd, Result.andThen_ok]; rfl⟩
end
end Scv
namespace Go.Proofs.Yteicjpjniaohhaa
open Go.RowKit Go.Shelf Scv
/-- a block is written that is no one's of theirs -/
theorem Try.Live.keep {w0 w W : World} {g : Nat} {v : Value} {d : Disk} {j : Nat} {rv : Value} {es : List Value} {s : Jour} {r : Option Nat} (h : Try.Live w0 w g v d j rv es s) (hg : w.grownBy W r)
    (hr : ∀ k, r = some k → ¬ SFoot g v k ∧ ¬ JFoot j rv es k ∧ w0.heap.size ≤ k) : Try.Live w0 W g v d j rv es s := by
  have hs : Same (fun k => some k ≠ r) w W := Same.of_grown hg (fun _ h => h)
  exact ⟨⟨h.lone.slab.same hs (fun k hk e => (hr k e.symm).1 hk), grown_new h.lone.grown hg (fun k hk => (hr k hk).2.2), h.lone.new⟩, h.jour.same hs (fun k hk e => (hr k e.symm).2.1 hk), h.sep, h.newj⟩
/-- a record is written: the blocks of the journal that are not new were its blocks -/
theorem jwrite_full2 {w0 : World} (g : Nat) (v : Value) (room : Nat) (ds : List (List UInt8)) (j : Nat) (rv : Value) (es : List Value) (x : Value) (data : List UInt8) (w : World) (h : Try.Live w0 w g v (full room ds) j rv es (jfull ds)) (hx : BytesAt w x data)
    (hxn : data ≠ [] → ∀ k, x.ownBlock = some k → ¬ SFoot g v k ∧ k ≠ j ∧ rv.ownBlock ≠ some k) (hlen : ds.length < 1099511627776) (hd : data.length ≤ 262144) (hr : total ds + (35 + data.length) ≤ room) :
    Calls Try.prog 15 #[.pointer (some ⟨j, 0, none⟩), x] w fun e w' => e = .returned (.int .i64 0) ∧ ∃ v' rv' es', Try.Live w0 w' g v' (full room (ds ++ [data])) j rv' es' (jfull (ds ++ [data])) ∧
      Same (fun k => ¬ SFoot g v k ∧ k ≠ j ∧ rv.ownBlock ≠ some k) w w' ∧ (∀ k, SFoot g v' k → SFoot g v k ∨ w.heap.size ≤ k) ∧ (∀ k, JFoot j rv' es' k → JFoot j rv es k ∨ w.heap.size ≤ k) :=
  (jwrite_calls j g v rv es (jfull ds) (full room ds) x data w h.lone.slab h.jour h.sep hx hxn hlen).mono fun e w' hh => by
    rw [write_full room ds data hd hr] at hh
    obtain ⟨he, v', rv', es', h1, h2, h3, h4, h5, h6⟩ := hh
    have hz := h.lone.grown.size
    refine ⟨he, v', rv', es', ⟨⟨h1, ?_, fun k hk => ?_⟩, h2, h6, fun k hk => ?_⟩, h3, h4, h5⟩
    · exact Same.grown h.lone.grown h3 (fun k hk => ⟨fun e => by have := h.lone.new k e; omega, fun e => by have := h.newj k (.inl e); omega, fun e => by have := h.newj k (.inr (.inl e)); omega⟩)
    · rcases h4 k hk with h' | h'
      · exact h.lone.new k h'
      · omega
    · rcases h5 k hk with h' | h'
      · exact h.newj k h'
      · omega
theorem getD_snoc (ds : List (List UInt8)) (d : List UInt8) (k : Nat) (h : ds.length = k) : (ds ++ [d]).getD k [] = d := by
  subst h; simp [List.getD_eq_getElem?_getD]
set_option maxRecDepth 100000 in
set_option maxHeartbeats 4000000 in
theorem own_calls (x : Value) (vs : List Value) (ls : List (List UInt8)) (w : World) (hread : ListsAt w x vs ls) :
    Calls Try.prog 5 #[x] w fun e w' => e = .returned (.bool true) ∧ w.grownBy w' none := by
  obtain ⟨ad, cap, hv, hcs, hbs⟩ := id hread
  subst hv
  obtain ⟨n, hn⟩ : ∃ n, n = ls.length := ⟨_, rfl⟩
  rw [← hn] at hcs hbs
  have HN := Lib.hid hn
  rw [← hn]
  clear hn hread
  go_enter Try.func5, Try.ntmps5
  go_wp2_with fail
  refine (writes_calls w).mono ?_
  rintro e0 W0 ⟨rfl, hg0⟩
  by_cases hlen : 10 < n
  · have hlen' : (10 : Int) < n := by omega
    go_wp2_with fail
    go_ret
    exact ⟨rfl, hg0⟩
  have hlen' : ¬ (10 : Int) < n := by omega
  have hlenB : (n : Int) ≤ 10 := by omega
  go_wp2_with fail
  refine (snew_live w 50000 (by omega) W0 hg0).mono ?_
  rintro e1 W1 ⟨g, rfl, -, hL1, -⟩
  go_wp2_with fail
  refine (jopen_full g _ 50000 [] W1 hL1 (by simp)).mono ?_
  rintro e2 W2 ⟨j, rv, es, v2, rfl, hL2, -, -⟩
  clear hL1 hg0
  go_wp2_with (with_reducible apply law_alloc _ Try.zid)
  intro W3 hb3 hg3 hz3
  obtain ⟨g7, hg7⟩ : ∃ g, g = W2.heap.size := ⟨_, rfl⟩
  rw [← hg7] at hb3
  rw [← hg7]
  replace hb3 : Blk W3 g7 (u8s zero32) 29 := hb3
  have hL3 := hL2.step hg3
  have hn7 := hL2.later (k := g7) (by omega)
  have hw7 : w.heap.size ≤ g7 := by have := hL2.lone.grown.size; omega
  clear hg7 hz3 hg3 hL2
  go_wp2_with fail
  go_loopw [37] (fun s37 wr => ∃ (k : Nat) (v rv : Value) (es : List Value), k ≤ n ∧ s37 = .int .i64 k ∧ Try.Live w wr g v (full 50000 (ls.take k)) j rv es (jfull (ls.take k)) ∧ Blk wr g7 (u8s (lastOf zero32 (ls.take k))) 29 ∧
    ¬ SFoot g v g7 ∧ ¬ JFoot j rv es g7 ∧ ∀ d ∈ ls.take k, d.length ≤ 300) (fun i _ => n - (intOf i).toNat)
  case atStart => exact ⟨0, _, _, _, by omega, rfl, hL3, hb3, hn7.1, hn7.2, by simp⟩
  case round =>
    clear hL3 hb3 hn7
    obtain ⟨k, v, rv, es, hk, rfl, hL, hB, hnf, hnj, hle⟩ := hrel
    by_cases hkn : k < n
    · have hki : (k : Int) < n := by omega
      obtain ⟨b, o, rfl, hcells⟩ := hcs.resolve_left (fun e => by have := HN.out; rw [e] at this; simp at this; omega)
      have ck := cell_grown hL.lone.grown _ _ (hcells k hkn)
      have hbk := hbs k hkn
      obtain ⟨e, he⟩ : ∃ e, e = vs.getD k undef := ⟨_, rfl⟩
      obtain ⟨d, hd⟩ : ∃ d, d = ls.getD k [] := ⟨_, rfl⟩
      rw [← he, ← hd] at hbk
      rw [← he] at ck
      obtain ⟨ds, hds⟩ : ∃ ds, ds = ls.take k := ⟨_, rfl⟩
      have hsucc : ls.take (k + 1) = ds ++ [d] := by rw [hd, hds]; exact take_snoc' ls k (by have := HN.out; omega)
      have hold : d ≠ [] → ∀ q, e.ownBlock = some q → q < w.heap.size := fun hd q hq => by obtain ⟨q', hq', hlt⟩ := hbk.block hd; rw [hq] at hq'; cases hq'; exact hlt
      obtain ⟨ade, cape, hev, _⟩ := id hbk
      obtain ⟨m, hm⟩ : ∃ m, m = d.length := ⟨_, rfl⟩
      rw [← hm] at hev
      subst hev
      have hlk : ds.length = k := by rw [hds, List.length_take, ← HN.out]; omega
      rw [← hds] at hL hB hle
      have h32 : (lastOf zero32 ds).length = 32 := lastOf_length _ _ rfl
      have hsn : lastOf zero32 (ds ++ [d]) = lnk (lastOf zero32 ds) d := lastOf_snoc ds zero32 d
      obtain ⟨last, hlast⟩ : ∃ last, last = lastOf zero32 ds := ⟨_, rfl⟩
      rw [← hlast] at hB h32 hsn
      have HLAST := Lib.hid hlast
      clear hlast
      have HX := Lib.hid (And.intro hsucc (And.intro hold (And.intro hm (And.intro hlk (And.intro hle (And.intro h32 hsn))))))
      have HBK := Lib.hid hbk
      clear he hd hsucc hold hm hlk hle hds h32 hsn hbk
      by_cases h300 : 300 < m
      · have h300i : (300 : Int) < m := by omega
        have hG := hL.lone.grown
        go_wp2_with fail
        go_ret
        exact ⟨rfl, hG⟩
      have h300i : ¬ (300 : Int) < m := by omega
      have hmI : (m : Int) ≤ 300 := by omega
      go_wp2_with ((with_reducible refine law_bslice0 5 Try.ubytes Try.su8 ?_))
      intro v1 W4 hr4 hg4 ho4
      have hb4 := HBK.out.grown0 (grown_trans hL.lone.grown hg4)
      have hsrc := hb4.src
      have hl0 := hL.lone.grown.size
      go_wp2_with ((with_reducible refine law_append wr.heap.size 5 (.int .u8 0) Try.ubytes Try.iu8 rfl v1 (.slice ade m cape) [] (d.map vb) ?_ ?_ hr4 hsrc ?_ ?_ ?_ ?_); rfl; rfl; (intro u hu; obtain ⟨b, _, rfl⟩ := List.mem_map.1 hu; rfl); (have := HX.out.2.2.1; simp; omega); exact hg4.size)
      intro v5 W5 hr5 hg5 hn5
      rw [List.nil_append] at hr5
      have hg45 : wr.grownBy W5 none := grown_new hg4 hg5 (fun q hq => by rw [ho4] at hq; cases hq; exact Nat.le_refl _)
      have hL5 := hL.step hg45
      have hB5 := hB.kept hg45 (by simp)
      have hlat : ∀ q, wr.heap.size ≤ q → ¬ SFoot g v q ∧ ¬ JFoot j rv es q := fun q hq => hL.later hq
      have hg7l : g7 < wr.heap.size := hB.lt
      have hb5 := hr5.bytes
      obtain ⟨ad5, n5, cap5, h5⟩ := hr5.shape
      subst h5
      obtain rfl : m = n5 := by have := hr5.len.1; rw [List.length_map] at this; rw [HX.out.2.2.1, ← this]
      have hx5 : d ≠ [] → ∀ q, (Value.slice ad5 m cap5).ownBlock = some q → ¬ SFoot g v q ∧ q ≠ j ∧ rv.ownBlock ≠ some q := fun _ q hq => by
        have := hlat q (hr5.lt q hq).1
        exact ⟨this.1, fun e => this.2 (.inl e), fun e => this.2 (.inr (.inl e))⟩
      have hL0 := Lib.hid hlat
      have HR5 := Lib.hid (And.intro hr5 (And.intro hb5 (And.intro hx5 (And.intro hg7l hl0))))
      have HL5 := Lib.hid (And.intro hL5 hB5)
      clear hr4 hg4 ho4 hb4 hsrc hr5 hg5 hn5 hg45 hL hB hlat hb5 hx5 hg7l hl0 hL5 hB5
      go_wp2_with fail
      refine (jwrite_full2 g v 50000 ds j rv es _ d W5 HL5.out.1 HR5.out.2.1 HR5.out.2.2.1 (by have := HX.out.2.2.2.1; omega) (by have := HX.out.2.2.1; omega) ?_).mono ?_
      · have h1 := total_le ds 300 HX.out.2.2.2.2.1
        rw [HX.out.2.2.2.1] at h1
        have h2 : k * (35 + 300) ≤ 10 * (35 + 300) := Nat.mul_le_mul_right _ (by omega)
        have := HX.out.2.2.1
        omega
      rintro e6 W6 ⟨rfl, v6, rv6, es6, hL6, hs6, hf6, hj6⟩
      obtain ⟨x5, hx5⟩ : ∃ x5, x5 = Value.slice ad5 m cap5 := ⟨_, rfl⟩
      have hrow6 : Row W6 wr.heap.size 5 (.slice ad5 m cap5) (d.map vb) := HR5.out.1.same hs6 (fun q hq => by
        have := HL5.out.1.lone.slab.lt
        have hge := (HR5.out.1.lt q hq).1
        have h1 := hL0.out q hge
        exact ⟨h1.1, fun e => h1.2 (.inl e), fun e => h1.2 (.inr (.inl e))⟩)
      have hB6 : Blk W6 g7 (u8s last) 29 := hs6.blk HL5.out.2 ⟨hnf, fun e => hnj (.inl e), fun e => hnj (.inr (.inl e))⟩
      have hnf6 : ¬ SFoot g v6 g7 := fun h => by
        rcases hf6 _ h with h | h
        · exact hnf h
        · have := HL5.out.2.lt; omega
      have hnj6 : ¬ JFoot j rv6 es6 g7 := fun h => by
        rcases hj6 _ h with h | h
        · exact hnj h
        · have := HL5.out.2.lt; omega
      have hF5 : ∀ q, (Value.slice ad5 m cap5).ownBlock = some q → ¬ SFoot g v6 q ∧ ¬ JFoot j rv6 es6 q ∧ q ≠ g7 ∧ w.heap.size ≤ q := fun q hq => by
        obtain ⟨hge, hlt⟩ := HR5.out.1.lt q hq
        have h1 := hL0.out q hge
        refine ⟨fun h => ?_, fun h => ?_, ?_, ?_⟩
        · rcases hf6 _ h with h | h
          · exact h1.1 h
          · omega
        · rcases hj6 _ h with h | h
          · exact h1.2 h
          · omega
        · have := HR5.out.2.2.2.1; omega
        · have := HR5.out.2.2.2.2; omega
      have HF := Lib.hid (And.intro hnf6 (And.intro hnj6 hF5))
      have HL6 := Lib.hid hL6
      have HRW := Lib.hid hrow6
      clear hs6 hf6 hj6 hL6 hnf6 hnj6 hF5 HR5 HL5 hL0 hnf hnj hrow6 hx5
      have hbW := HBK.out.grown0 HL6.out.lone.grown
      have hrun := run_bstring (P := Try.prog) hbW Try.ubytes Try.uu8 Try.ustr
      go_wp2_with ((with_reducible refine law_loadw g7 (u8s last) _ _ ?_ hB6 Try.uid ?_ ?_ ?_); rfl; rfl; (rw [Try.sid, u8s_size, HX.out.2.2.2.2.2.1]))
      refine (rlink_calls last d W6 HX.out.2.2.2.2.2.1 (by have := HX.out.2.2.1; omega)).mono ?_
      rintro _ W7 ⟨rfl, hg7'⟩
      rw [← HX.out.2.2.2.2.2.2]
      have h32' : (lastOf zero32 (ds ++ [d])).length = 32 := lastOf_length _ _ rfl
      obtain ⟨last2, hlast2⟩ : ∃ l, l = lastOf zero32 (ds ++ [d]) := ⟨_, rfl⟩
      rw [← hlast2] at h32' ⊢
      have hB7 := hB6.kept hg7' (by simp)
      have HL7 := Lib.hid (HL6.out.step hg7')
      have HRW7 := Lib.hid (HRW.out.grown hg7' (.inl rfl))
      have H32 := Lib.hid (And.intro h32' (And.intro HX.out.2.2.2.2.2.1 hlast2))
      clear hB6 hg7' h32' hlast2 HL6 HRW hbW hrun
      go_wp2_with ((with_reducible refine law_store g7 0 (last2.map vb) _ _ ?_ ?_ hB7 ?_ ?_ ?_ ?_); rfl; rfl; (rw [u8s_size, List.length_map, H32.out.1, H32.out.2.1]; omega); (intro v hv; obtain ⟨b, _, rfl⟩ := List.mem_map.1 hv; rfl); (rw [Try.sid, List.length_map, H32.out.1]))
      intro W8 hb8 hg8 hz8
      rw [lay_whole _ _ (by rw [u8s_size, List.length_map, H32.out.1, H32.out.2.1])] at hb8
      replace hb8 : Blk W8 g7 (u8s last2) 29 := hb8
      have HL8 := Lib.hid (HL7.out.keep hg8 (by rintro _ ⟨⟩; exact ⟨HF.out.1, HF.out.2.1, hw7⟩))
      have HRW8 := Lib.hid (HRW7.out.grown hg8 (.inr (fun e => (HF.out.2.2 _ e).2.2.1 rfl)))
      have HB8 := Lib.hid hb8
      clear hB7 hg8 hz8 HL7 HRW7 hb8
      obtain ⟨wo, rfl⟩ : ∃ x, x = wr := ⟨wr, rfl⟩
      go_wp2_with fail
      go_loopw [58] (fun s58 wr => ∃ (q : Nat) (l : List UInt8), q ≤ m ∧ s58 = .int .i64 q ∧ l.length = m ∧ Row wr wo.heap.size 5 (.slice ad5 m cap5) (l.map vb) ∧ W8.grownBy wr (Value.slice ad5 m cap5).ownBlock) (fun i _ => m - (intOf i).toNat)
      case atStart => exact ⟨0, d, by omega, rfl, HX.out.2.2.1.symm, HRW8.out, grown_refl W8 _⟩
      case round =>
        obtain ⟨q, l, hq, rfl, hl, hR, hG⟩ := hrel
        by_cases hqm : q < m
        · have hqi : (q : Int) < m := by omega
          obtain ⟨gq, cq, hvq, hge, hlt, hcell, hfz, hput⟩ := hR.put q (by omega)
          obtain ⟨y, hy⟩ : ∃ y, y = byt l q := ⟨_, rfl⟩
          rw [← hy] at hcell
          have hyl : y < 256 := by rw [hy]; exact byt_lt l q
          have had : ad5 = some ⟨gq, 0, none⟩ := by cases hvq; rfl
          subst had
          have HP := Lib.hid (And.intro hput (And.intro hl (And.intro hG hge)))
          clear hput hy hvq hl hR hG hge
          have hset := grown_set wr gq q (.int .u8 (((y : Int) + 1) % 256))
          have hrow := HP.out.1 (b8 (y + 1))
          rw [← vb_mod] at hrow
          have HQ := Lib.hid (And.intro hrow hset)
          clear hrow hset
          go_wp2_with fail
          go_roundw
          case rel => exact ⟨q + 1, l.set q (b8 (y + 1)), by omega, by go_num, by rw [List.length_set]; exact HP.out.2.1, HQ.out.1, grown_trans HP.out.2.2.1 HQ.out.2⟩
          case measure => simp [intOf]; omega
        · obtain rfl : m = q := by omega
          obtain ⟨w9, rfl⟩ : ∃ x, x = wr := ⟨wr, rfl⟩
          have HL9 := Lib.hid (HL8.out.keep hG (fun q hq => ⟨(HF.out.2.2 q hq).1, (HF.out.2.2 q hq).2.1, (HF.out.2.2 q hq).2.2.2⟩))
          have HB9 := Lib.hid (HB8.out.kept hG (fun e => (HF.out.2.2 g7 e.symm).2.2.1 rfl))
          clear hl hR hG HL8 HB8 HRW8 hqm hq
          have hrk : (jfull (ds ++ [d])).records.getD k [] = d := getD_snoc ds d k HX.out.2.2.2.1
          have hrl : k < (jfull (ds ++ [d])).records.length := by
            show k < (ds ++ [d]).length
            rw [List.length_append, HX.out.2.2.2.1, List.length_singleton]; omega
          have HRK := Lib.hid (And.intro hrk hrl)
          clear hrk hrl
          go_wp2_with fail
          refine (jat_calls j g rv6 es6 (jfull (ds ++ [d])) k w9 HL9.out.jour HRK.out.2 (by rw [HRK.out.1]; have := HX.out.2.2.1; omega)).mono ?_
          rintro _ W10 ⟨u, rfl, hru, hg10⟩
          rw [HRK.out.1] at hru
          have hbu := hru.bytes
          obtain ⟨adu, nu, capu, hu⟩ := hru.shape
          subst hu
          obtain rfl : m = nu := by have := hru.len.1; rw [List.length_map] at this; rw [HX.out.2.2.1, ← this]
          have HL10 := Lib.hid (HL9.out.step hg10)
          have HB10 := Lib.hid (HB9.out.kept hg10 (by simp))
          have hFu : ∀ p, (Value.slice adu m capu).ownBlock = some p → ¬ SFoot g v6 p ∧ ¬ JFoot j rv6 es6 p ∧ p ≠ g7 ∧ w.heap.size ≤ p := fun p hp => by
            have h1 := (hru.lt p hp).1
            have h2 := HL9.out.later h1
            have h3 := HB9.out.lt
            have h4 := HL9.out.lone.grown.size
            exact ⟨h2.1, h2.2, by omega, by omega⟩
          have HU := Lib.hid (And.intro hru hFu)
          have hS0 : Blk W10.drew g7 (u8s last2) 29 ∧ BytesAt W10.drew (.slice adu m capu) d ∧ BytesAt W10.drew (.slice ade m cape) d :=
            ⟨HB10.out, hbu.grown0 (grown_drew W10 none), HBK.out.grown0 (HL10.out.step (grown_drew W10 none)).lone.grown⟩
          have HUS := Lib.hid hg10.size
          clear hru hbu hg10 HL9 HB9 hFu
          go_wp2_with fail
          refine wp_region_held_drew (S := fun w' : World => Blk w' g7 (u8s last2) 29 ∧ BytesAt w' (.slice adu m capu) d ∧ BytesAt w' (.slice ade m cape) d) (by kernel_rfl) hS0 (fun _ => ?_)
          refine anyH_take 0 (some 74) (v := ?_) rfl rfl (by kernel_rfl) (by kernel_rfl) (by kernel_rfl) (fun _ _ _ h => h) (Or.inl ⟨by rfl, ?_⟩) hS0 ?_
          rotate_left
          · intro w _
            go_simp
            try (with_reducible rfl)
          simp only [Act.put, List.setIfInBounds_toArray, List.set_cons_zero, List.set_cons_succ]
          refine anyH_take 1 (some 75) (v := ?_) rfl rfl (by kernel_rfl) (by kernel_rfl) (by kernel_rfl) (fun _ _ _ h => h) (Or.inl ⟨by rfl, ?_⟩) hS0 ?_
          rotate_left
          · intro w _
            go_simp
            try (with_reducible rfl)
          simp only [Act.put, List.setIfInBounds_toArray, List.set_cons_zero, List.set_cons_succ]
          refine anyH_take 2 (some 76) (v := ?_) rfl rfl (by kernel_rfl) (by kernel_rfl) (by kernel_rfl) (fun _ _ _ h => h) (Or.inl ⟨by rfl, ?_⟩) hS0 ?_
          rotate_left
          · intro w _
            go_simp
            try (with_reducible rfl)
          simp only [Act.put, List.setIfInBounds_toArray, List.set_cons_zero, List.set_cons_succ]
          refine anyH_take 3 (some 77) (v := ?_) rfl rfl (by kernel_rfl) (by kernel_rfl) (by kernel_rfl) (fun _ _ _ h => h) (Or.inl ⟨by rfl, ?_⟩) hS0 ?_
          rotate_left
          · intro w _
            go_simp
            try (with_reducible rfl)
          simp only [Act.put, List.setIfInBounds_toArray, List.set_cons_zero, List.set_cons_succ]
          refine anyH_take 4 (some 78) rfl rfl (by kernel_rfl) (by kernel_rfl) (by kernel_rfl) (fun _ _ _ h => h) (yieldsIf_bstring rfl rfl (.slice adu m capu) d 5 rfl (fun _ h => h.2.1) Try.ubytes Try.uu8 Try.ustr) hS0 ?_
          simp only [Act.put, List.setIfInBounds_toArray, List.set_cons_zero, List.set_cons_succ]
          refine anyH_take 5 (some 79) (v := ?_) rfl rfl (by kernel_rfl) (by kernel_rfl) (by kernel_rfl) (fun _ _ _ h => h) (Or.inl ⟨by rfl, ?_⟩) hS0 ?_
          rotate_left
          · intro w _
            go_simp
            try (with_reducible rfl)
          simp only [Act.put, List.setIfInBounds_toArray, List.set_cons_zero, List.set_cons_succ]
          refine anyH_take 6 (some 80) rfl rfl (by kernel_rfl) (by kernel_rfl) (by kernel_rfl) (fun _ _ _ h => h) (yieldsIf_bstring rfl rfl (.slice ade m cape) d 5 rfl (fun _ h => h.2.2) Try.ubytes Try.uu8 Try.ustr) hS0 ?_
          simp only [Act.put, List.setIfInBounds_toArray, List.set_cons_zero, List.set_cons_succ]
          refine anyH_take 7 (some 81) (v := ?_) rfl rfl (by kernel_rfl) (by kernel_rfl) (by kernel_rfl) (fun _ _ _ h => h) (Or.inl ⟨by rfl, ?_⟩) hS0 ?_
          rotate_left
          · intro w _
            go_simp
            try (with_reducible rfl)
          simp only [Act.put, List.setIfInBounds_toArray, List.set_cons_zero, List.set_cons_succ]
          refine anyH_take 8 (some 82) (v := ?_) rfl rfl (by kernel_rfl) (by kernel_rfl) (by kernel_rfl) (fun _ _ _ h => h) (Or.inl ⟨by rfl, ?_⟩) hS0 ?_
          rotate_left
          · intro w _
            go_simp
            try (with_reducible rfl)
          simp only [Act.put, List.setIfInBounds_toArray, List.set_cons_zero, List.set_cons_succ]
          refine anyH_take 9 (some 83) (v := ?_) rfl rfl (by kernel_rfl) (by kernel_rfl) (by kernel_rfl) (fun _ _ _ h => h) (Or.inl ⟨by rfl, ?_⟩) hS0 ?_
          rotate_left
          · intro w _
            go_simp
            try (with_reducible rfl)
          simp only [Act.put, List.setIfInBounds_toArray, List.set_cons_zero, List.set_cons_succ]
          refine anyH_take 10 (some 84) (v := ?_) rfl rfl (by kernel_rfl) (by kernel_rfl) (by kernel_rfl) (fun _ _ _ h => h) (Or.inl ⟨by rfl, ?_⟩) hS0 ?_
          rotate_left
          · intro w _
            go_simp
            try (with_reducible rfl)
          simp only [Act.put, List.setIfInBounds_toArray, List.set_cons_zero, List.set_cons_succ]
          refine anyH_take 12 (some 86) rfl rfl (by kernel_rfl) (by kernel_rfl) (by kernel_rfl) (fun _ _ _ h => h) (yieldsIf_load rfl rfl g7 0 (last2.map vb) _ _ _ rfl (fun _ h => h.1) (by intro i hi; simp [u8s]) Try.uid rfl (by rw [Try.sid, List.length_map, H32.out.1])) hS0 ?_
          simp only [Act.put, List.setIfInBounds_toArray, List.set_cons_zero, List.set_cons_succ]
          refine wpAnyH_ready (rs := [11]) (by kernel_rfl) (by simp) ?_
          refine AllReadyH.cons rfl (fun K hK => ?_) AllReadyH.nil
          refine gstep_call (some 85) rfl rfl rfl #[.pointer (some ⟨j, 0, none⟩)] rfl (fun _ => by simp [go_sem]) (jlast_calls j g rv6 es6 (jfull (ds ++ [d])) _ (HL10.out.step (grown_drew W10 none)).jour) ?_
          rintro _ W11 ⟨rfl, hg11⟩
          rw [show (jfull (ds ++ [d])).last = last2 from H32.out.2.2.symm]
          have hS1 : Blk W11 g7 (u8s last2) 29 ∧ BytesAt W11 (.slice adu m capu) d ∧ BytesAt W11 (.slice ade m cape) d := ⟨hS0.1.kept hg11 (by simp), hS0.2.1.grown0 hg11, hS0.2.2.grown0 hg11⟩
          refine ⟨_, rfl, ?_⟩
          refine hK.out _ _ hS1 (fun _ => ?_)
          clear hK K
          simp only [Act.put, List.setIfInBounds_toArray, List.set_cons_zero, List.set_cons_succ]
          refine anyH_take 13 (some 87) rfl rfl (by kernel_rfl) (by kernel_rfl) (by kernel_rfl) (fun _ _ _ h => h) (yieldsIf_neq rfl rfl 5 last2 last2 rfl rfl Try.uid Try.uu8 Try.su8 Try.gid H32.out.1 H32.out.1) hS1 ?_
          simp only [Act.put, List.setIfInBounds_toArray, List.set_cons_zero, List.set_cons_succ]
          refine anyH_take 14 (some 88) (v := ?_) rfl rfl (by kernel_rfl) (by kernel_rfl) (by kernel_rfl) (fun _ _ _ h => h) (Or.inl ⟨by rfl, ?_⟩) hS1 ?_
          rotate_left
          · intro w _
            go_simp
            try (with_reducible rfl)
          simp only [Act.put, List.setIfInBounds_toArray, List.set_cons_zero, List.set_cons_succ]
          refine wpAnyH_done (by kernel_rfl) ?_ _

          have HL11 := Lib.hid ((HL10.out.step (grown_drew W10 none)).step hg11)
          have HU11 := Lib.hid ((HU.out.1.grown (grown_drew W10 none) (.inl rfl)).grown hg11 (.inl rfl))
          have HS11 := Lib.hid hS1
          have hw10 : w9.heap.size ≤ W11.heap.size := Nat.le_trans (HUS.out) hg11.size
          clear hS0 hS1 hg11 HL10 HB10
          go_wp2_with fail
          go_loopw [91] (fun s91 wr => ∃ (q : Nat) (l : List UInt8), q ≤ m ∧ s91 = .int .i64 q ∧ l.length = m ∧ Row wr w9.heap.size 5 (.slice adu m capu) (l.map vb) ∧ W11.grownBy wr (Value.slice adu m capu).ownBlock) (fun i _ => m - (intOf i).toNat)
          case atStart => exact ⟨0, d, by omega, rfl, HX.out.2.2.1.symm, HU11.out, grown_refl W11 _⟩
          case round =>
            obtain ⟨q, l, hq, rfl, hl, hR, hG⟩ := hrel
            by_cases hqm : q < m
            · have hqi : (q : Int) < m := by omega
              obtain ⟨gq, cq, hvq, hge, hlt, hcell, hfz, hput⟩ := hR.put q (by omega)
              obtain ⟨y, hy⟩ : ∃ y, y = byt l q := ⟨_, rfl⟩
              rw [← hy] at hcell
              have hyl : y < 256 := by rw [hy]; exact byt_lt l q
              have had : adu = some ⟨gq, 0, none⟩ := by cases hvq; rfl
              subst had
              have HP := Lib.hid (And.intro hput (And.intro hl (And.intro hG hge)))
              have hset := grown_set wr gq q (.int .u8 (((y : Int) + 1) % 256))
              have hrow := hput (b8 (y + 1))
              rw [← vb_mod] at hrow
              have HQ := Lib.hid (And.intro hrow hset)
              clear hput hy hvq hl hR hG hge hrow hset
              go_wp2_with fail
              go_roundw
              case rel => exact ⟨q + 1, l.set q (b8 (y + 1)), by omega, by go_num, by rw [List.length_set]; exact HP.out.2.1, HQ.out.1, grown_trans HP.out.2.2.1 HQ.out.2⟩
              case measure => simp [intOf]; omega
            · obtain rfl : m = q := by omega
              obtain ⟨wq, rfl⟩ : ∃ x, x = wr := ⟨wr, rfl⟩
              have HL12 := Lib.hid (HL11.out.keep hG (fun q hq => ⟨(HU.out.2 q hq).1, (HU.out.2 q hq).2.1, (HU.out.2 q hq).2.2.2⟩))
              have HB12 := Lib.hid (HS11.out.1.kept hG (fun e => (HU.out.2 g7 e.symm).2.2.1 rfl))
              clear hl hR hG HL11 HS11 HU11 hqm hq
              go_wp2_with fail
              refine (jat_calls j g rv6 es6 (jfull (ds ++ [d])) k wq HL12.out.jour HRK.out.2 (by rw [HRK.out.1]; have := HX.out.2.2.1; omega)).mono ?_
              rintro _ W13 ⟨u, rfl, hru, hg13⟩
              rw [HRK.out.1] at hru
              have hbu := hru.bytes
              obtain ⟨adw, nw, capw, hu⟩ := hru.shape
              subst hu
              obtain rfl : m = nw := by have := hru.len.1; rw [List.length_map] at this; rw [HX.out.2.2.1, ← this]
              have HL13 := Lib.hid (HL12.out.step hg13)
              have HB13 := Lib.hid (HB12.out.kept hg13 (by simp))
              have hrun1 := run_bstring (P := Try.prog) hbu Try.ubytes Try.uu8 Try.ustr
              have hrun2 := run_bstring (P := Try.prog) (HBK.out.grown0 HL13.out.lone.grown) Try.ubytes Try.uu8 Try.ustr
              clear hru hbu hg13 HL12 HB12
              go_wp2_with fail
              clear hrun1 hrun2
              go_roundw
              case rel =>
                refine ⟨k + 1, v6, rv6, es6, by omega, by go_num, ?_, ?_, HF.out.1, HF.out.2.1, ?_⟩
                · rw [HX.out.1]; exact HL13.out
                · rw [HX.out.1, ← H32.out.2.2]; exact HB13.out
                · rw [HX.out.1]
                  intro x hx
                  rcases List.mem_append.1 hx with hx | hx
                  · exact HX.out.2.2.2.2.1 x hx
                  · rw [List.mem_singleton.1 hx, ← HX.out.2.2.1]; omega
              case measure => simp [intOf]; omega
    · obtain rfl : k = n := by omega
      have hG := hL.lone.grown
      go_wp2_with fail
      go_ret
      exact ⟨rfl, hG⟩
end Go.Proofs.Yteicjpjniaohhaa
