/- The journal's sums: link, front. -/
import Derived.Test.YteicjpjniaohhaaSlab2
import Derived.Deep.RegionHeld3
import Derived.Deep.RegionLaw
namespace Scv
open Go Go.RowKit
/-- append, as one step of a region that draws its order -/
theorem step_append {P : Program} {ops : Array Oper} {o : Oper} {a : Act} {w : World} {K : Act → World → Prop} {Q : Exit → Act → World → Prop} {E : Prop} (hg : o.guard = none) (s x : Operand) (t : TypeId)
    (hop : o.op = Op.call { callee := Callee.builtin Builtin.append, args := #[s, x], argTypes := #[t, t] }) (base : Nat) (e : TypeId) (z : Value) (ht : P.underlying t = some (.slice e))
    (hi : (P.info? e).map (fun i => (i.size, decide (i.bytes ≤ 128), i.zero)) = some (1, true, some z))
    (hzs : z.cells.size = 1) (v y : Value) (xs news : List Value) (hx : a.eval s = v) (hy : a.eval x = y) (hown : Row w base e v xs) (hs : SrcAt w y news) (h1 : ∀ u ∈ news, u.oneCell' = true)
    (hlen : xs.length + news.length ≤ 1099511627776) (hbase : base ≤ w.heap.size)
    (k : ∀ v' W, Row W base e v' (xs ++ news) → w.grownBy W v.ownBlock → (∀ g, v'.ownBlock = some g → v.ownBlock = some g ∨ w.heap.size ≤ g) → K (a.put o.dst v') W) :
    if Region.wanted o (yielded ops a.tmps) = true then Oper.wp P o a w K Q else E := by
  have hw : Region.wanted o (yielded ops a.tmps) = true := by simp [Region.wanted, hg]
  rw [if_pos hw]
  cases hq : P.info? e with
  | none => simp [hq] at hi
  | some i =>
    simp only [hq, Option.map_some, Option.some.injEq, Prod.mk.injEq, decide_eq_true_eq] at hi
    obtain ⟨v', w', h2, h3, h4, h5⟩ := run_append_row base t o.type e i z ht hq hi.2.2 hi.1 hi.2.1 hzs v y xs news hown hs h1 hlen hbase
    unfold Oper.wp
    simp only [execOp, hop, resolve, invoke, builtin, Sem.run_bind, Sem.run_pure, Result.andThen_ok, List.map_toArray, List.map_cons, List.map_nil, hx, hy, h2]
    exact k v' w' h3 h4 h5
theorem ListsAt.two {w : World} {g : Nat} {v1 v2 : Value} {a b : List UInt8} {t : TypeId} (hb : Blk w g #[v1, v2] t) (h1 : BytesAt w v1 a) (h2 : BytesAt w v2 b) : ListsAt w (.slice (some ⟨g, 0, none⟩) 2 2) [v1, v2] [a, b] := by
  refine ⟨_, 2, rfl, .inr ⟨g, 0, rfl, fun i hi => ?_⟩, fun i hi => ?_⟩
  · match i, hi with
    | 0, _ => rw [hb.cell]; rfl
    | 1, _ => rw [hb.cell]; rfl
  · match i, hi with
    | 0, _ => exact h1
    | 1, _ => exact h2
/-- some bytes inside a block -/
theorem Blk.part {w : World} {g o n cap : Nat} {cs : Array Value} {l : List UInt8} {t : TypeId} (hb : Blk w g cs t) (hn : n = l.length) (hc : ∀ i, i < l.length → cs[o + i]? = some (vb (l.getD i 0))) : BytesAt w (.slice (some ⟨g, o, none⟩) n cap) l := by
  subst hn
  exact ⟨_, cap, rfl, .inr ⟨g, o, rfl, fun i hi => by rw [hb.cell, hc i hi]; rfl⟩⟩
/-- a slice of bytes cut -/
theorem BytesAt.sub {w : World} {b o n cap : Nat} {l : List UInt8} (h : BytesAt w (.slice (some ⟨b, o, none⟩) n cap) l) (i k cap' : Nat) (hk : i + k ≤ l.length) : BytesAt w (.slice (some ⟨b, o + i, none⟩) k cap') ((l.drop i).take k) := by
  have hl : ((l.drop i).take k).length = k := by simp; omega
  obtain ⟨ad, cap2, hv, hc⟩ := h
  cases hv
  refine ⟨_, cap', by rw [hl], ?_⟩
  rcases hc with rfl | ⟨b', o', hb, hc⟩
  · simp at hk; obtain ⟨rfl, rfl⟩ := hk; exact .inl rfl
  · cases hb
    refine .inr ⟨b, o + i, rfl, fun j hj => ?_⟩
    rw [hl] at hj
    rw [Nat.add_assoc, hc (i + j) (by omega)]
    simp [byt, List.getD_eq_getElem?_getD, hj]
/-- the sum of a record and of all ahead of it -/
def lnk (last data : List UInt8) : List UInt8 := forSum [114, 101, 99, 111, 114, 100] [last, data]
theorem lnk_length (last data : List UInt8) : (lnk last data).length = 32 := sha_length _
def be24 (n : Nat) : List UInt8 := [b8 (n / 65536), b8 (n / 256), b8 n]
/-- the short sum of a length -/
def ownS (last digits : List UInt8) : List UInt8 := (forSum [102, 114, 111, 110, 116] [last, digits]).take 16
def frontS (last data : List UInt8) : List UInt8 := be24 data.length ++ ownS last (be24 data.length) ++ (lnk last data).take 16
theorem ownS_length (last digits : List UInt8) : (ownS last digits).length = 16 := by
  unfold ownS; rw [List.length_take]; have := sha_length (forEnc [102, 114, 111, 110, 116] [last, digits]); unfold forSum; omega
theorem frontS_length (last data : List UInt8) : (frontS last data).length = 35 := by
  unfold frontS
  simp only [List.length_append, ownS_length, List.length_take, lnk_length]; rfl
theorem sized2 (a b : List UInt8) : (List.flatMap sized [a, b]).length = a.length + b.length + 8 := by simp [sized, be32]; omega
end Scv
namespace Go.Proofs.Yteicjpjniaohhaa
open Go.RowKit Go.Shelf Scv
set_option maxRecDepth 100000 in
set_option maxHeartbeats 4000000 in
theorem jlink_calls (last data : List UInt8) (x : Value) (w : World) (hl : last.length = 32) (hx : BytesAt w x data) (hd : data.length < 16777216) :
    Calls Try.prog 33 #[.agg (u8s last), x] w fun e w' => e = .returned (.agg (u8s (lnk last data))) ∧ w.grownBy w' none := by
  obtain ⟨adx, capx, hxv, _⟩ := id hx
  obtain ⟨m, hm⟩ : ∃ m, m = data.length := ⟨_, rfl⟩
  rw [← hm] at hxv
  subst hxv
  obtain ⟨own, hown⟩ : ∃ own, own = lnk last data := ⟨_, rfl⟩
  have hol : own.length = 32 := by rw [hown]; exact lnk_length _ _
  rw [← hown]
  have HO := Lib.hid (And.intro hown hol)
  clear hown hol
  go_enter Try.func33, Try.ntmps33
  go_wp2_with (with_reducible refine law_box (.agg (u8s last)) rfl ?_)
  intro W1 hb1 hg1 hz1
  obtain ⟨g1, hg1'⟩ : ∃ g, g = w.heap.size := ⟨_, rfl⟩
  rw [← hg1'] at hb1 hz1
  rw [← hg1']
  replace hb1 : Blk W1 g1 (u8s last) 29 := hb1
  have HX := Lib.hid (And.intro hx (And.intro hm hl))
  have HG := Lib.hid (And.intro hg1' hz1)
  clear hx hl hm hg1' hz1
  go_wp2_with (with_reducible apply law_alloc _ Try.zid)
  intro W2 hb2 hg2 hz2
  obtain ⟨g2, hg2'⟩ : ∃ g, g = W1.heap.size := ⟨_, rfl⟩
  rw [← hg2'] at hb2 hz2
  rw [← hg2']
  replace hb2 : Blk W2 g2 (u8s (List.replicate 32 0)) 29 := hb2
  have hb12 := hb1.kept hg2 (by simp)
  have HG2 := Lib.hid (And.intro hg2' hz2)
  clear hb1 hg2' hz2
  go_wp2_with ((with_reducible refine law_bslice 30 [.slice (some ⟨g1, 0, none⟩) 32 32, .slice adx m capx] Try.ulists Try.zbytes ?_ ?_ ?_ ?_ ?_ ?_); omega; rfl; omega; (intro v hv; simp only [List.mem_cons, List.not_mem_nil, or_false] at hv; rcases hv with rfl | rfl <;> rfl); rfl)
  intro W3 hb3 hg3 hz3
  have hg13 := grown_trans (grown_trans hg1 hg2) hg3
  have hbx := HX.out.1
  have hla := ListsAt.two hb3 (Blk.part (l := last) (o := 0) (n := 32) (cap := 32) (hb12.kept hg3 (by simp)) HX.out.2.2.symm (fun i hi => by rw [Nat.zero_add, u8s_get _ _ hi])) (hbx.grown0 hg13)
  have hd2 : (List.flatMap sized [last, data]).length < 1073741824 := by rw [sized2, HX.out.2.2]; omega
  clear hz3
  go_wp2_with fail
  refine (for_calls [114, 101, 99, 111, 114, 100] _ _ [last, data] _ hla (by decide) (by simp) hd2).mono ?_
  rintro e W8 ⟨rfl, hg8⟩
  have ho2 : own = forSum [114, 101, 99, 111, 114, 100] [last, data] := HO.out.1
  rw [← ho2]
  clear ho2
  have hi8 := (hb2.kept hg3 (by simp)).kept hg8 (by simp)
  go_wp2_with ((with_reducible refine law_store g2 0 (own.map vb) _ _ ?_ ?_ hi8 ?_ ?_ ?_ ?_); rfl; rfl; (rw [u8s_size, List.length_map, HO.out.2, List.length_replicate]; omega); (intro v hv; obtain ⟨b, _, rfl⟩ := List.mem_map.1 hv; rfl); (rw [Try.sid, List.length_map, HO.out.2]))
  intro W9 hi9 hg9 hz9
  rw [lay_whole _ _ (by rw [u8s_size, List.length_map, HO.out.2, List.length_replicate])] at hi9
  clear hz9
  go_wp2_with fail
  refine bodyPost_ret (results_cell_row rfl _ _ g2 29 _ _ _ rfl hi9 Try.uid rfl (by rw [Try.sid]; simp [HO.out.2])) rfl ?_
  exact ⟨rfl, grown_new (grown_trans hg13 hg8) hg9 (fun g hg => by cases hg; have := HG.out; have := HG2.out; have := hg1.size; omega)⟩
set_option maxRecDepth 100000 in
set_option maxHeartbeats 4000000 in
theorem jfront_calls (last data : List UInt8) (x : Value) (w : World) (hl : last.length = 32) (hx : BytesAt w x data) (hd : data.length < 1048576) :
    Calls Try.prog 35 #[.agg (u8s last), x] w fun e w' => ∃ v, e = .returned v ∧ Row w' w.heap.size 5 v ((frontS last data).map vb) ∧ w.grownBy w' none := by
  obtain ⟨adx, capx, hxv, _⟩ := id hx
  obtain ⟨m, hm⟩ : ∃ m, m = data.length := ⟨_, rfl⟩
  rw [← hm] at hxv hd
  subst hxv
  go_enter Try.func35, Try.ntmps35
  go_wp2_with (with_reducible refine law_box (.agg (u8s last)) rfl ?_)
  intro W1 hb1 hg1 hz1
  obtain ⟨g1, hg1'⟩ : ∃ g, g = w.heap.size := ⟨_, rfl⟩
  rw [← hg1'] at hb1 hz1
  rw [← hg1']
  replace hb1 : Blk W1 g1 (u8s last) 29 := hb1
  have HX := Lib.hid (And.intro hx (And.intro hm hl))
  have HG := Lib.hid (And.intro hg1' hz1)
  clear hx hl hm hg1' hz1
  go_wp2_with ((with_reducible refine law_bslice 5 [.int .u8 ((m : Int) / 65536), .int .u8 ((m : Int) / 256 % 256), .int .u8 ((m : Int) % 256)] Try.ubytes Try.zu8 ?_ ?_ ?_ ?_ ?_ ?_); omega; rfl; omega; (intro v hv; simp only [List.mem_cons, List.not_mem_nil, or_false] at hv; rcases hv with rfl | rfl | rfl <;> rfl); rfl)
  intro W2 hb2 hg2 hz2
  have e24 : ([.int .u8 ((m : Int) / 65536), .int .u8 ((m : Int) / 256 % 256), .int .u8 ((m : Int) % 256)] : List Value).toArray = u8s (be24 m) := by
    have hb : ∀ m : Nat, (vb (b8 m)) = .int .u8 ((m : Int) % 256) := fun m => by
      unfold vb b8
      rw [UInt8.toNat_ofNat']; simp only [Int.natCast_emod]; rfl
    simp only [u8s, be24, List.map_cons, List.map_nil, hb, Int.natCast_ediv]
    have : ((m : Int) / ((65536 : Nat) : Int)) % 256 = (m : Int) / 65536 := by omega
    rw [this]; rfl
  rw [e24] at hb2
  obtain ⟨g2, hg2'⟩ : ∃ g, g = W1.heap.size := ⟨_, rfl⟩
  rw [← hg2'] at hb2 hz2
  rw [← hg2']
  have hb12 := hb1.kept hg2 (by simp)
  have HG2 := Lib.hid (And.intro hg2' hz2)
  clear e24 hg2' hz2 hb1
  go_wp2_with ((with_reducible refine law_bslice 30 [.slice (some ⟨g1, 0, none⟩) 32 32, .slice (some ⟨g2, 0, none⟩) 3 3] Try.ulists Try.zbytes ?_ ?_ ?_ ?_ ?_ ?_); omega; rfl; omega; (intro v hv; simp only [List.mem_cons, List.not_mem_nil, or_false] at hv; rcases hv with rfl | rfl <;> rfl); rfl)
  intro W3 hb3 hg3 hz3
  have hbd : BytesAt W3 (.slice (some ⟨g2, 0, none⟩) 3 3) (be24 m) := Blk.bytes (hb2.kept hg3 (by simp)) 3
  have hla := ListsAt.two hb3 (Blk.part (l := last) (o := 0) (n := 32) (cap := 32) (hb12.kept hg3 (by simp)) HX.out.2.2.symm (fun i hi => by rw [Nat.zero_add, u8s_get _ _ hi])) hbd
  have hd2 : (List.flatMap sized [last, be24 m]).length < 1073741824 := by rw [sized2, HX.out.2.2]; simp [be24]
  go_wp2_with fail
  refine (for_calls [102, 114, 111, 110, 116] _ _ [last, be24 m] _ hla (by decide) (by simp) hd2).mono ?_
  rintro e W4 ⟨rfl, hg4⟩
  obtain ⟨own, hown⟩ : ∃ own, own = forSum [102, 114, 111, 110, 116] [last, be24 m] := ⟨_, rfl⟩
  have hol : own.length = 32 := by rw [hown]; exact sha_length _
  rw [← hown]
  have HO := Lib.hid hown
  clear hown hz3
  go_wp2_with (with_reducible apply law_alloc _ Try.zid)
  intro W5 hb5 hg5 hz5
  obtain ⟨g5, hg5'⟩ : ∃ g, g = W4.heap.size := ⟨_, rfl⟩
  rw [← hg5'] at hb5 hz5
  rw [← hg5']
  have HG5 := Lib.hid (And.intro hg5' hz5)
  clear hg5' hz5
  have HOL := Lib.hid hol
  clear hol
  replace hb5 : Blk W5 g5 (u8s (List.replicate 32 0)) 29 := hb5
  go_wp2_with ((with_reducible refine law_store g5 0 (own.map vb) _ _ ?_ ?_ hb5 ?_ ?_ ?_ ?_); rfl; rfl; (rw [u8s_size, List.length_map, HOL.out, List.length_replicate]; omega); (intro v hv; obtain ⟨b, _, rfl⟩ := List.mem_map.1 hv; rfl); (rw [Try.sid, List.length_map, HOL.out]))
  intro W6 hb6 hg6 hz6
  rw [lay_whole _ _ (by rw [u8s_size, List.length_map, HOL.out, List.length_replicate])] at hb6
  clear hz6
  replace hb6 : Blk W6 g5 (u8s own) 29 := hb6
  have hg36 := grown_new (grown_trans (grown_trans hg3 hg4) hg5) hg6 (fun g hg => by cases hg; have := HG5.out; have := hg3.size; have := hg4.size; omega)
  have hbl6 := hb12.kept hg36 (by simp)
  have hb26 := hb2.kept hg36 (by simp)
  have hG6 := grown_trans (grown_trans hg1 hg2) hg36
  have hx6 := HX.out.1.grown0 hG6
  clear hb3 hb5 hb2 hb12 hla hbd hg4 hg5 hg6
  go_wp2_with ((with_reducible refine law_loadw g1 (u8s last) _ _ ?_ hbl6 Try.uid ?_ ?_ ?_); rfl; rfl; (rw [Try.sid, u8s_size, HX.out.2.2]))
  refine (jlink_calls last data _ _ HX.out.2.2 hx6 (by have := HX.out.2.1; omega)).mono ?_
  rintro e W7 ⟨rfl, hg7⟩
  obtain ⟨all, hall⟩ : ∃ all, all = lnk last data := ⟨_, rfl⟩
  rw [← hall]
  have hal : all.length = 32 := by rw [hall]; exact lnk_length _ _
  have HAL := Lib.hid (And.intro hall hal)
  clear hall hal
  go_wp2_with (with_reducible apply law_alloc _ Try.zid)
  intro W8 hb8 hg8 hz8
  obtain ⟨g8, hg8'⟩ : ∃ g, g = W7.heap.size := ⟨_, rfl⟩
  rw [← hg8'] at hb8 hz8
  rw [← hg8']
  replace hb8 : Blk W8 g8 (u8s (List.replicate 32 0)) 29 := hb8
  have HG8 := Lib.hid (And.intro hg8' hz8)
  clear hg8' hz8
  go_wp2_with ((with_reducible refine law_store g8 0 (all.map vb) _ _ ?_ ?_ hb8 ?_ ?_ ?_ ?_); rfl; rfl; (rw [u8s_size, List.length_map, HAL.out.2, List.length_replicate]; omega); (intro v hv; obtain ⟨b, _, rfl⟩ := List.mem_map.1 hv; rfl); (rw [Try.sid, List.length_map, HAL.out.2]))
  intro W9 hb9 hg9 hz9
  rw [lay_whole _ _ (by rw [u8s_size, List.length_map, HAL.out.2, List.length_replicate])] at hb9
  replace hb9 : Blk W9 g8 (u8s all) 29 := hb9
  clear hz9
  have hg69 := grown_new (grown_trans hg7 hg8) hg9 (fun g hg => by cases hg; have := HG8.out; have := hg7.size; omega)
  have hb59 := hb6.kept hg69 (by simp)
  have hb29 := hb26.kept hg69 (by simp)
  have hG9 := grown_trans hG6 hg69
  have hrow2 : Row W9 w.heap.size 5 (.slice (some ⟨g2, 0, none⟩) 3 3) ((be24 m).map vb) := by
    refine .inr ⟨g2, 3, u8s (be24 m), (0, 0), rfl, ?_, hb29, .inl ⟨rfl, rfl⟩, Nat.le_refl _, by unfold maxLen; omega, by rw [u8s_size]; rfl, ?_⟩
    · have := HG2.out; have := hg1.size; omega
    · simp only [u8s]; exact List.take_of_length_le (Nat.le_refl _)
  have hs5 : BytesAt W9 (.slice (some ⟨g5, 0, none⟩) 16 32) (own.take 16) := Blk.part (o := 0) hb59 (by rw [List.length_take, HOL.out]; rfl) (fun i hi => by
    rw [List.length_take, HOL.out] at hi
    rw [Nat.zero_add, u8s_get _ _ (by rw [HOL.out]; omega)]
    simp [vb, List.getD_eq_getElem?_getD, show i < 16 by omega])
  have hs8 : BytesAt W9 (.slice (some ⟨g8, 0, none⟩) 16 32) (all.take 16) := Blk.part (o := 0) hb9 (by rw [List.length_take, HAL.out.2]; rfl) (fun i hi => by
    rw [List.length_take, HAL.out.2] at hi
    rw [Nat.zero_add, u8s_get _ _ (by rw [HAL.out.2]; omega)]
    simp [vb, List.getD_eq_getElem?_getD, show i < 16 by omega])
  have hne8 : some g8 ≠ some g2 := by
    have h1 := HG8.out.1
    have h2 := HG2.out.2
    have := hg36.size; have := hg7.size
    intro e; cases e; omega
  have hfr : frontS last data = be24 m ++ own.take 16 ++ all.take 16 := by
    unfold frontS ownS; rw [← HX.out.2.1, HO.out, HAL.out.1]
  have HF := Lib.hid hfr
  have one16 : ∀ l : List UInt8, ∀ u ∈ l.map vb, u.oneCell' = true := by
    intro l u hu; obtain ⟨b, _, rfl⟩ := List.mem_map.1 hu; rfl
  have ONE := Lib.hid one16
  have hsz : w.heap.size ≤ W9.heap.size := hG9.size
  clear hb6 hb26 hx6 hg36 hbl6 hb59 hb29 hb9 hb8 hg9 hg8 hg7 hg69 hfr one16
  go_wp2_with fail
  replace hrow2 := hrow2.grown (grown_drew W9 none) (.inl rfl)
  replace hs5 := (hs5.grown0 (grown_drew W9 none)).src
  replace hs8 := hs8.grown0 (grown_drew W9 none)
  have hsz9 : w.heap.size ≤ W9.drew.heap.size := hsz
  go_region_law (first
    | (refine step_append rfl _ _ _ rfl w.heap.size 5 (.int .u8 0) Try.ubytes Try.iu8 rfl (.slice (some ⟨g2, 0, none⟩) 3 3) _ ((be24 m).map vb) ((own.take 16).map vb) rfl rfl hrow2 hs5 (ONE.out _) (by simp [be24]; omega) hsz9 ?_
       intro v3 W10 hr3 hg10 hn3
       have hs8' : SrcAt W10 _ _ := (hs8.grown hg10 (fun _ e => hne8 e)).src)
    | (have hr3' := hr3
       clear hr3'
       refine step_append rfl _ _ _ rfl w.heap.size 5 (.int .u8 0) Try.ubytes Try.iu8 rfl v3 _ _ ((all.take 16).map vb) rfl rfl hr3 hs8' (ONE.out _) (by simp [be24]; omega) (Nat.le_trans hsz9 hg10.size) ?_
       intro v4 W11 hr4 hg11 hn4))
  go_wp2_with fail
  refine bodyPost_ret (results_tmp rfl _ _ _) rfl ?_
  refine ⟨v4, rfl, ?_, ?_⟩
  · rw [HF.out, List.map_append, List.map_append]; exact hr4
  · exact grown_new (grown_trans (grown_new (grown_trans hG9 (grown_drew W9 none)) hg10 (fun g hg => (hrow2.lt g hg).1)) (grown_refl _ _)) hg11 (fun g hg => (hr3.lt g hg).1)
end Go.Proofs.Yteicjpjniaohhaa
