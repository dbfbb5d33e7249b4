/- JournalPlays: the walk. -/
import Derived.Deep.CutBlock
import Derived.Test.YteicjpjniaohhaaRWrite
import Derived.Test.YteicjpjniaohhaaSpoilt
import Derived.Test.YteicjpjniaohhaaWhole
import Derived.Test.YteicjpjniaohhaaOwn
set_option linter.unusedVariables false
set_option linter.unusedSimpArgs false
namespace Scv
open Go Go.RowKit
/-- what is done with a journal, and the value of its bytes -/
structure OpR where
  kind : Int
  n : Int
  x : UInt8
  data : List UInt8
  e : Value
def opcells (r : OpR) : Array Value := #[.int .i64 r.kind, .int .i64 r.n, .int .u8 (r.x.toNat : Int), r.e]
structure OpR.ok (w : World) (r : OpR) : Prop where
  kind : -9223372036854775808 ≤ r.kind ∧ r.kind ≤ 9223372036854775807
  num : -9223372036854775808 ≤ r.n ∧ r.n ≤ 9223372036854775807
  data : BytesAt w r.e r.data
/-- a slice of them -/
def OpsAt (w : World) (v : Value) (l : List OpR) : Prop :=
  ∃ ad cap, v = .slice ad l.length cap ∧ (l = [] ∨ ∃ b o, ad = some ⟨b, o, none⟩ ∧ ∀ i (h : i < l.length), ∀ k, k < 4 → w.cell? ⟨b, o + i * 4 + k, none⟩ = (opcells l[i])[k]?) ∧ ∀ r ∈ l, r.ok w
theorem opcells_one (w : World) (r : OpR) (h : r.ok w) : ∀ v ∈ (opcells r).toList, v.oneCell' = true := by
  intro v hv; simp only [opcells, List.mem_cons, List.not_mem_nil, or_false] at hv
  rcases hv with rfl | rfl | rfl | rfl
  · rfl
  · rfl
  · rfl
  · exact h.data.one
section
variable {P : Program} {ops : Array Oper} {Q : Exit → Act → World → Prop} {a : Act} {w : World} {rest : List Oper} {dst : Option Tmp} {ty0 : TypeId} {pos : String} {after : Array Edge}
/-- a row of cells is loaded -/
theorem law_loadc {ty : TypeId} {x : Operand} (g o : Nat) (cs : List Value) (d : TypeDesc) (hx : a.eval x = .pointer (some ⟨g, o, none⟩))
    (hc : ∀ i, i < cs.length → w.cell? ⟨g, o + i, none⟩ = cs[i]?) (hu : P.underlying ty = some d) (hd : d.isRow = true) (hi : (P.info? ty).map (·.size) = some cs.length)
    (k : wpList P ops Q rest (a.put dst (.agg cs.toArray)) w) :
    wpList P ops Q ({ dst, op := .load ty x, type := ty0, pos, after, guard := none } :: rest) a w :=
  wpList_val rfl (by
    have hr := run_loadAt_mid (P := P) w g o ty cs d (fun j v hv => by
      have hj : j < cs.length := by
        rcases Nat.lt_or_ge j cs.length with h | h
        · exact h
        · rw [List.getElem?_eq_none h] at hv; cases hv
      rw [hc j hj, hv]) hu hd hi
    unfold execOp
    simp only [hx, Sem.run_bind, hr, Result.andThen_ok]; rfl) k
end
theorem write_cnt (s : Jour) (d : Disk) (data : List UInt8) (hc : s.records.length ≤ d.bytes.length) (hr : ∀ r ∈ s.records, r.length < 16777216) (hd : data.length < 16777216) :
    (s.write d data).1.records.length ≤ (s.write d data).2.1.bytes.length ∧ (∀ r ∈ (s.write d data).1.records, r.length < 16777216) ∧ (s.write d data).2.1.room = d.room := by
  have h1 : d.bytes.length ≤ (d.append (recB s.last data)).1.bytes.length ∧ (d.append (recB s.last data)).1.room = d.room := by
    unfold Disk.append
    split
    · exact ⟨Nat.le_refl _, rfl⟩
    · split
      · exact ⟨Nat.le_refl _, rfl⟩
      · exact ⟨by simp, rfl⟩
  have h2 : ∀ e : Disk, e.sync.1.bytes = e.bytes ∧ e.sync.1.room = e.room := fun e => by
    unfold Disk.sync; split
    · exact ⟨rfl, rfl⟩
    · exact ⟨rfl, rfl⟩
  unfold Jour.write
  split
  · exact ⟨hc, hr, rfl⟩
  · split
    · exact ⟨hc, hr, rfl⟩
    · split
      · exact ⟨Nat.le_trans hc h1.1, hr, h1.2⟩
      · rename_i hz
        split
        · exact ⟨by rw [(h2 _).1]; exact Nat.le_trans hc h1.1, hr, by rw [(h2 _).2]; exact h1.2⟩
        · have hb : (d.append (recB s.last data)).1.bytes.length = d.bytes.length + (35 + data.length) := by
            unfold Disk.append at hz ⊢
            split
            · rename_i hh; rw [if_pos hh] at hz; exact absurd hz (by simp)
            · split
              · rename_i hh hh2; rw [if_neg hh, if_pos hh2] at hz; exact absurd hz (by simp)
              · simp [recB_length]
          refine ⟨?_, ?_, by rw [(h2 _).2]; exact h1.2⟩
          · rw [(h2 _).1, hb]; show (s.records ++ [data]).length ≤ _; rw [List.length_append, List.length_singleton]; omega
          · intro r hrm
            rcases List.mem_append.1 hrm with h | h
            · exact hr r h
            · rw [List.mem_singleton.1 h]; exact hd
theorem opened_room (d : Disk) : (opened d).2.1.room = d.room := by
  have hcut : ∀ n, (d.cut n).1.room = d.room := fun n => by unfold Disk.cut; split <;> rfl
  unfold opened
  cases scanA d.bytes zero32 with
  | none => rfl
  | some x =>
    obtain ⟨r, l, n⟩ := x
    simp only []
    split
    · split <;> exact hcut n
    · rfl
theorem opened_cnt {d : Disk} {s : Jour} (h : (opened d).1 = some s) : s.records.length ≤ (opened d).2.1.bytes.length := by
  unfold opened at h ⊢
  cases hs : scanA d.bytes zero32 with
  | none => rw [hs] at h; cases h
  | some x =>
    obtain ⟨rs, l, n⟩ := x
    obtain ⟨h1, h2, h3, h4⟩ := scanA_length d.bytes.length _ _ _ _ _ (Nat.le_refl _) rfl hs
    rw [hs] at h
    simp only [] at h ⊢
    split at h
    · split at h
      · cases h
      · rename_i hn hc
        cases h
        rw [if_pos hn, if_neg hc]
        unfold Disk.cut at hc ⊢
        split
        · rename_i h0; rw [if_pos h0] at hc; exact absurd hc (by simp)
        · show rs.length ≤ (d.bytes.take n).length
          rw [List.length_take]; omega
    · rename_i hn
      cases h
      rw [if_neg hn]
      show rs.length ≤ d.bytes.length
      omega
end Scv
namespace Go.Proofs.Yteicjpjniaohhaa
open Go.RowKit Go.Shelf Scv
theorem Try.sop : (Try.prog.info? 56).map (·.size) = some 4 := by kernel_rfl
theorem Try.uop : ∃ d, Try.prog.underlying 56 = some d ∧ d.isRow = true := isrow_of (by kernel_rfl)
theorem Try.zop : (Try.prog.info? 56).map (·.zero) = some (some (.agg (opcells ⟨0, 0, 0, [], .slice none 0 0⟩))) := by kernel_rfl
/-- what holds between the steps: the program's journal and the document's are the same -/
structure Try.PInv (w wr : World) (g g11 : Nat) (v : Value) (D : Disk) (j : Nat) (rv : Value) (es : List Value) (S : Jour) (rvw : Value) : Prop where
  live : Try.Live w wr g v D j rv es S
  m : Blk wr g11 (rjcells D rvw S) 52
  row : Row wr 0 9 rvw (S.records.map vs)
  sepr : ∀ q, rvw.ownBlock = some q → ¬ SFoot g v q ∧ ¬ JFoot j rv es q ∧ q ≠ g11 ∧ w.heap.size ≤ q
  sepm : ¬ SFoot g v g11 ∧ ¬ JFoot j rv es g11 ∧ w.heap.size ≤ g11
  room : D.room ≤ 3000
  cnt : S.records.length ≤ D.bytes.length
  recs : ∀ r ∈ S.records, r.length < 16777216
theorem Try.PInv.step {w wr W : World} {g g11 : Nat} {v : Value} {D : Disk} {j : Nat} {rv : Value} {es : List Value} {S : Jour} {rvw : Value} (h : Try.PInv w wr g g11 v D j rv es S rvw) (hg : wr.grownBy W none) : Try.PInv w W g g11 v D j rv es S rvw :=
  ⟨h.live.step hg, h.m.kept hg (by simp), h.row.grown hg (.inl rfl), h.sepr, h.sepm, h.room, h.cnt, h.recs⟩
theorem row_to0 {w : World} {base : Nat} {e : TypeId} {v : Value} {xs : List Value} (h : Row w base e v xs) : Row w 0 e v xs := by
  rcases h with h | ⟨g, cap, cur, fr, hv, h1, h2⟩
  · exact .inl h
  · exact .inr ⟨g, cap, cur, fr, hv, Nat.zero_le _, h2⟩
set_option maxRecDepth 100000 in
set_option maxHeartbeats 40000000 in
theorem plays_calls (x : Value) (ops : List OpR) (room : Int) (w : World) (hread : OpsAt w x ops) :
    Calls Try.prog 6 #[.int .i64 room, x] w fun e w' => e = .returned (.bool true) ∧ w.grownBy w' none := by
  obtain ⟨td, hu, htd⟩ := Try.udslab
  obtain ⟨tj, huj, htj⟩ := Try.urjour
  obtain ⟨tp, huo, hto⟩ := Try.uop
  obtain ⟨ad, cap, hv, hcs, hbs⟩ := id hread
  subst hv
  obtain ⟨n, hn⟩ : ∃ n, n = ops.length := ⟨_, rfl⟩
  have HN := Lib.hid hn
  have HOPS := Lib.hid (And.intro hcs hbs)
  rw [← hn]
  clear hn hread hcs hbs
  go_enter Try.func6, Try.ntmps6
  go_wp2_with fail
  refine (writes_calls w).mono ?_
  rintro e0 W0 ⟨rfl, hg0⟩
  by_cases hneg : room < 0
  · go_wp2_with fail
    go_ret
    exact ⟨rfl, hg0⟩
  by_cases hbig : 3000 < room
  · have t1 : 0 ≤ room := by omega
    go_wp2_with fail
    go_ret
    exact ⟨rfl, hg0⟩
  by_cases hlen : 40 < n
  · have hlen' : (40 : Int) < n := by omega
    have t1 : 0 ≤ room := by omega
    have t2 : room ≤ 3000 := by omega
    go_wp2_with fail
    go_ret
    exact ⟨rfl, hg0⟩
  have hlen' : ¬ (40 : Int) < n := by omega
  have hlenB : (n : Int) ≤ 40 := by omega
  have t1 : 0 ≤ room := by omega
  have t2 : room ≤ 3000 := by omega
  have b1 : decide (room < 0) = false := decide_eq_false hneg
  have b2 : decide (3000 < room) = false := decide_eq_false hbig
  have b3 : decide ((40 : Int) < n) = false := decide_eq_false hlen'
  obtain ⟨rm, rfl⟩ : ∃ rm : Nat, room = rm := ⟨room.toNat, by omega⟩
  have hrm : rm ≤ 3000 := by omega
  clear hneg hbig
  go_wp2_with fail
  refine (snew_live w rm (by omega) W0 hg0).mono ?_
  rintro e1 W1 ⟨g, rfl, -, hL1, hg1⟩
  go_wp2_with fail
  refine (dnew_calls rm W1 (by omega)).mono ?_
  rintro _ W2 ⟨rfl, hg2⟩
  have hL2 := hL1.step hg2
  clear hL1 hg1 hg2 hg0 b1 b2 b3
  go_wp2_with (with_reducible refine law_alloc _ Try.zdslab ?_)
  intro W3 hb3 hg3 hz3
  obtain ⟨g7, hg7⟩ : ∃ g, g = W2.heap.size := ⟨_, rfl⟩
  rw [← hg7] at hb3
  rw [← hg7]
  replace hb3 : Blk W3 g7 (dcells ⟨0, [], 0, 0⟩) 47 := hb3
  go_wp2_with ((with_reducible refine law_storew g7 (dcells (Disk.new rm)) _ _ ?_ ?_ hb3 ?_ ?_ ?_ ?_); rfl; rfl; rfl; exact dcells_one _; exact Try.sdslab)
  intro W4 hb4 hg4 hz4
  have hg24 : W2.grownBy W4 none := grown_new hg3 hg4 (by rintro _ ⟨⟩; rw [hg7]; exact Nat.le_refl _)
  have hL4 := hL2.step hg24
  have hn7 : g7 ≠ g := by have := hL2.slab.blk.lt; omega
  have HN7 := Lib.hid hn7
  clear hb3 hg3 hz3 hg4 hz4 hg24 hL2 hg7 hn7
  go_wp2_with fail
  refine (jopen_full g _ rm [] W4 hL4 (by simp)).mono ?_
  rintro e2 W5 ⟨j, rv, es, v5, rfl, hL5, hs5, hj5, hv5⟩
  have hb5 := hs5.blk hb4 HN7.out
  have hng : ∀ k, JFoot j rv es k → k < W5.heap.size := hL5.jour.lt
  clear hL4 hs5 hb4 hj5 hv5
  go_wp2_with ((with_reducible refine law_loadw g7 (dcells (Disk.new rm)) _ _ ?_ hb5 hu htd ?_ ?_); rfl; exact Try.sdslab)
  refine (ropen_calls (Disk.new rm) W5 (Disk.new_ok (by omega))).mono ?_
  rintro _ W6 ⟨hg6, rvw, hrow6, rfl⟩
  have ho : opened (Disk.new rm) = (some (jfull []), full rm [], 0) := by
    rw [← full_nil]; exact opened_full rm [] (by simp)
  rw [ho] at hrow6
  rw [ho]
  have hjr : jr (some (jfull []), full rm [], (0 : Int)) = jfull [] := rfl
  rw [hjr] at hrow6
  rw [hjr]
  have hL6 := hL5.step hg6
  have hl5 : ∀ q, SFoot g v5 q ∨ JFoot j rv es q → q < W5.heap.size := fun q hq => hq.elim (hL5.lone.slab.lt q) (hL5.jour.lt q)
  have hw5 : w.heap.size ≤ W5.heap.size := hL5.lone.grown.size
  have hw6 : W5.heap.size ≤ W6.heap.size := hg6.size
  clear ho hjr hb5 hng hL5 hg6
  go_wp2_with (with_reducible refine law_alloc _ Try.zrjour ?_)
  intro W7 hb7 hg7 hz7
  obtain ⟨g11, hg11⟩ : ∃ g, g = W6.heap.size := ⟨_, rfl⟩
  rw [← hg11] at hb7
  rw [← hg11]
  replace hb7 : Blk W7 g11 (rjcells ⟨0, [], 0, 0⟩ (.slice none 0 0) ⟨[], zero32, false⟩) 52 := hb7
  go_wp2_with ((with_reducible refine law_storew g11 (rjcells (full rm []) rvw (jfull [])) _ _ ?_ ?_ hb7 ?_ ?_ ?_ ?_); rfl; rfl; (rw [rjcells_size _ _ _ rfl, rjcells_size _ _ _ rfl]); exact rjcells_one _ _ _ hrow6.one; (rw [rjcells_size _ _ _ rfl]; exact Try.srjour))
  intro W8 hb8 hg8 hz8
  have hg68 : W6.grownBy W8 none := grown_new hg7 hg8 (by rintro _ ⟨⟩; rw [hg11]; exact Nat.le_refl _)
  have hP8 : Try.PInv w W8 g g11 v5 (full rm []) j rv es (jfull []) rvw := by
    refine ⟨hL6.step hg68, hb8, row_to0 (hrow6.grown hg68 (.inl rfl)), fun q hq => ?_, ?_, hrm, Nat.zero_le _, by simp [jfull]⟩
    · have h1 := hrow6.lt q hq
      exact ⟨fun e => by have := hl5 q (.inl e); omega, fun e => by have := hl5 q (.inr e); omega, by omega, by omega⟩
    · exact ⟨fun e => by have := hl5 g11 (.inl e); omega, fun e => by have := hl5 g11 (.inr e); omega, by omega⟩
  clear hb7 hg7 hz7 hb8 hg8 hz8 hg68 hL6 hrow6 hl5 hw5 hw6 hg11
  go_wp2_with fail
  go_loopw [9, 63] (fun s9 s63 wr => ∃ (k : Nat) (v : Value) (D : Disk) (j : Nat) (rv : Value) (es : List Value) (S : Jour) (rvw : Value), k ≤ n ∧ s63 = .int .i64 (k : Int) ∧ s9 = .pointer (some ⟨j, 0, none⟩) ∧ Try.PInv w wr g g11 v D j rv es S rvw) (fun _ i _ => n - (intOf i).toNat)
  case atStart => exact ⟨0, _, _, _, _, _, _, _, by omega, by rfl, rfl, hP8⟩
  case round =>
    clear hP8
    obtain ⟨k, v, D, j, rv, es, S, rvw, hk, rfl, rfl, hP⟩ := hrel
    by_cases hkn : k < n
    · have hki : (k : Int) < n := by omega
      obtain ⟨b, o, rfl, hcells⟩ := HOPS.out.1.resolve_left (fun e => by have := HN.out; rw [e] at this; simp at this; omega)
      have hko : k < ops.length := by rw [← HN.out]; exact hkn
      obtain ⟨r, hr⟩ : ∃ r, r = ops[k] := ⟨_, rfl⟩
      have hrok : r.ok w := HOPS.out.2 r (by rw [hr]; exact List.getElem_mem hko)
      have hc4 : ∀ i, i < (opcells r).toList.length → wr.cell? ⟨b, o + k * 4 + i, none⟩ = (opcells r).toList[i]? := fun i hi => by
        have hi : i < 4 := hi
        have := hcells k hko i hi
        rw [← hr] at this
        have hlt := hP.live.lone.grown
        have hs : (opcells r)[i]? = some ((opcells r)[i]'hi) := Array.getElem?_eq_getElem hi
        exact (cell_grown hlt _ _ (this.trans hs)).trans (by rw [Array.getElem?_toList]; exact hs.symm)
      have HC4 := Lib.hid hc4
      have HP := Lib.hid hP
      clear hcells hr hc4 hko hP
      obtain ⟨kd, nn, xb, dt, ev⟩ := r
      obtain ⟨hkd, hnn, hdt⟩ := hrok
      simp only at hkd hnn hdt
      obtain ⟨ade, cape, hev, _⟩ := id hdt
      obtain ⟨m, hm⟩ : ∃ m, m = dt.length := ⟨_, rfl⟩
      rw [← hm] at hev
      subst hev
      obtain ⟨r, hrr⟩ : ∃ r : OpR, r = ⟨kd, nn, xb, dt, .slice ade m cape⟩ := ⟨_, rfl⟩
      rw [← hrr] at HC4
      have HRR := Lib.hid hrr
      have HDT := Lib.hid (And.intro hdt hm)
      have HKD := Lib.hid (And.intro hkd hnn)
      clear hdt hm hrr hkd hnn
      go_wp2_with (first | ((refine law_loadc b (o + k * 4) (opcells r).toList _ ?_ HC4.out huo hto Try.sop ?_); rfl) | (with_reducible refine law_alloc _ Try.zop ?_))
      intro W9 hb9 hg9 hz9
      obtain ⟨g14, hg14⟩ : ∃ g, g = wr.heap.size := ⟨_, rfl⟩
      rw [← hg14] at hb9
      rw [← hg14]
      replace hb9 : Blk W9 g14 (opcells ⟨0, 0, 0, [], .slice none 0 0⟩) 56 := hb9
      have hone : ∀ v ∈ (opcells r).toList, v.oneCell' = true := by rw [HRR.out]; exact opcells_one w _ ⟨HKD.out.1, HKD.out.2, HDT.out.1⟩
      have HONE := Lib.hid hone
      clear hone
      go_wp2_with ((refine law_storew g14 (opcells r) _ _ ?_ ?_ hb9 ?_ HONE.out Try.sop ?_); rfl; rfl; rfl)
      intro W10 hb10 hg10 hz10
      have hgg : wr.grownBy W10 none := grown_new hg9 hg10 (by rintro _ ⟨⟩; rw [hg14]; exact Nat.le_refl _)
      have HP10 := Lib.hid (HP.out.step hgg)
      rw [HRR.out] at hb10
      have c0 : W10.cell? ⟨g14, 0, none⟩ = some (.int .i64 kd) := by rw [hb10.cell]; rfl
      have hl14 : ∀ q, (SFoot g v q ∨ JFoot j rv es q) ∨ q = g11 ∨ rvw.ownBlock = some q → q ≠ g14 := fun q hq e => by
        subst e
        rcases hq with (h | h) | h | h
        · have := HP.out.live.lone.slab.lt _ h; omega
        · have := HP.out.live.jour.lt _ h; omega
        · have := HP.out.m.lt; omega
        · have := (HP.out.row.lt _ h).2; omega
      have HB14 := Lib.hid (And.intro hb10 hl14)
      clear hb9 hg9 hz9 hb10 hg10 hz10 hgg hg14 hl14 HP HC4 HONE
      go_upto_block 2 with fail
      clear c0
      go_cut [9, 15, 16, 63] from 63 to 215 (fun s9 s15 s16 s63 wx => s63 = .int .i64 (k : Int) ∧ ∃ (c : Int) (v : Value) (D : Disk) (j : Nat) (rv : Value) (es : List Value) (S : Jour) (rvw : Value), s9 = .pointer (some ⟨j, 0, none⟩) ∧ s15 = .int .i64 c ∧ s16 = .int .i64 c ∧ Try.PInv w wx g g11 v D j rv es S rvw)
      case first =>
        by_cases k0 : kd = 0
        · as_aux_lemma =>
          subst k0
          have c0 : W10.cell? ⟨g14, 0, none⟩ = some (.int .i64 0) := by rw [HB14.out.1.cell]; rfl
          have c3 : W10.cell? ⟨g14, 3, none⟩ = some (.slice ade m cape) := by rw [HB14.out.1.cell]; rfl
          by_cases h300 : 300 < m
          · have h300i : (300 : Int) < m := by omega
            go_wp2_with fail
            go_roundw
            case rel => exact ⟨k + 1, v, D, j, rv, es, S, rvw, by omega, by go_num, rfl, HP10.out⟩
            case measure => simp [intOf]; omega
          · have h300i : ¬ (300 : Int) < m := by omega
            have hm := HP10.out.m
            have hll := HP10.out.live.jour.len
            have HLL := Lib.hid hll
            have hbd := HDT.out.1.grown0 HP10.out.live.lone.grown
            have hrun := run_bstr (P := Try.prog) hbd Try.ubytes Try.uu8 Try.ustr
            have hdl : dt.length < 16777216 := by have := HDT.out.2; omega
            have HDL := Lib.hid hdl
            clear hll hbd hdl
            go_wp2_with ((with_reducible refine law_loadw g11 (rjcells D rvw S) _ _ ?_ hm huj htj ?_ ?_); rfl; (rw [rjcells_size _ _ _ HLL.out]; exact Try.srjour))
            refine (rwrite_calls D rvw S dt 0 W10 HP10.out.live.lone.slab.ok HLL.out HP10.out.row (by have := HP10.out.cnt; have := HP10.out.live.lone.slab.ok.fits; have := HP10.out.room; omega)).mono ?_
            rintro _ W11 ⟨hg11', rvw2, hrow11, hown11, rfl⟩
            obtain ⟨S2, hS2⟩ : ∃ x, x = (S.write D dt).1 := ⟨_, rfl⟩
            obtain ⟨D2, hD2⟩ : ∃ x, x = (S.write D dt).2.1 := ⟨_, rfl⟩
            obtain ⟨c, hc⟩ : ∃ x, x = (S.write D dt).2.2 := ⟨_, rfl⟩
            rw [← hS2] at hrow11
            rw [← hS2, ← hD2, ← hc]
            have hll2 : S2.last.length = 32 := by
              rw [hS2]; unfold Jour.write
              split
              · exact HLL.out
              · split
                · exact HLL.out
                · split
                  · exact HLL.out
                  · split
                    · exact HLL.out
                    · exact lnk_length _ _
            have hm11 := hm.kept hg11' (by simp)
            have HW := Lib.hid (And.intro hS2 (And.intro hD2 (And.intro hc (And.intro hll2 hown11))))
            have HP11 := Lib.hid (HP10.out.step hg11')
            have c3' := cell_grown hg11' _ _ c3
            have hg1l : g11 < W10.heap.size := hm.lt
            have hw10 : w.heap.size ≤ W10.heap.size := HP10.out.live.lone.grown.size
            have hg14' : W11.cell? ⟨g14, 3, none⟩ = some (.slice ade m cape) := c3'
            clear hS2 hD2 hc hll2 hm c0 c3 hrun hown11 c3'
            go_wp2_with ((with_reducible refine law_storew g11 (rjcells D2 rvw2 S2) _ _ ?_ ?_ hm11 ?_ ?_ ?_ ?_); rfl; rfl; (rw [rjcells_size _ _ _ HW.out.2.2.2.1, rjcells_size _ _ _ HLL.out]); exact rjcells_one _ _ _ hrow11.one; (rw [rjcells_size _ _ _ HW.out.2.2.2.1]; exact Try.srjour))
            intro W12 hb12 hg12 hz12
            have hlive12 := HP11.out.live.keep hg12 (by rintro _ ⟨⟩; exact HP11.out.sepm)
            have hne2 : rvw2.ownBlock ≠ some g11 := fun e => by
              rcases HW.out.2.2.2.2 _ e with h | h
              · exact (HP10.out.sepr _ h).2.2.1 rfl
              · omega
            have hrow12 := hrow11.grown hg12 (.inr hne2)
            have c12 : W12.cell? ⟨g14, 3, none⟩ = some (.slice ade m cape) := by
              have hne : g14 ≠ g11 := fun e => HB14.out.2 g11 (.inr (.inl rfl)) e.symm
              rw [World.cell?_of_block (hg12.block g14 (block_lt_of_cell hg14') (by simpa using hne))]; exact hg14'
            have HL12 := Lib.hid (And.intro hlive12 (And.intro hrow12 (And.intro hb12 hne2)))
            have hz1112 : W10.heap.size ≤ W12.heap.size := Nat.le_trans hg11'.size hg12.size
            clear hm11 hg14' hb12 hg12 hz12 hlive12 hne2 hrow12 hrow11 hg11' HP11
            go_wp2_with fail
            refine (jwrite_live2 g v D j rv es S _ dt W12 HL12.out.1 (HDT.out.1.grown0 HL12.out.1.lone.grown) (fun hd q hq => HL12.out.1.old (x := .slice ade m cape) (fun q hq => by obtain ⟨q', hq', hlt⟩ := HDT.out.1.block hd; rw [hq] at hq'; cases hq'; exact hlt) q hq) (by have := HP10.out.cnt; have := HP10.out.live.lone.slab.ok.fits; have := HP10.out.room; omega)).mono ?_
            rintro _ W13 ⟨rfl, v', rv', es', hl13, hs13, hf13, hj13⟩
            rw [← HW.out.1, ← HW.out.2.1] at hl13
            rw [← HW.out.2.2.1]
            have hsep := HP10.out.sepm
            have hold : ∀ q, rvw2.ownBlock = some q → ¬ SFoot g v q ∧ ¬ JFoot j rv es q ∧ w.heap.size ≤ q ∧ q < W12.heap.size := fun q hq => by
              have hlt := (HL12.out.2.1.lt q hq).2
              rcases HW.out.2.2.2.2 _ hq with h | h
              · have := HP10.out.sepr _ h; exact ⟨this.1, this.2.1, this.2.2.2, hlt⟩
              · have := HP10.out.live.later h; exact ⟨this.1, this.2, by omega, hlt⟩
            have hPn : Try.PInv w W13 g g11 v' D2 j rv' es' S2 rvw2 := by
              have hcn := write_cnt S D dt HP10.out.cnt HP10.out.recs HDL.out
              rw [← HW.out.1, ← HW.out.2.1] at hcn
              refine ⟨hl13, hs13.blk HL12.out.2.2.1 ⟨hsep.1, fun e => hsep.2.1 (.inl e), fun e => hsep.2.1 (.inr (.inl e))⟩, HL12.out.2.1.same hs13 (fun q hq => ?_), fun q hq => ?_, ?_, by rw [hcn.2.2]; exact HP10.out.room, hcn.1, hcn.2.1⟩
              · have := hold q hq; exact ⟨this.1, fun e => this.2.1 (.inl e), fun e => this.2.1 (.inr (.inl e))⟩
              · have h := hold q hq
                refine ⟨fun e => ?_, fun e => ?_, fun e => HL12.out.2.2.2 (by rw [← e]; exact hq), h.2.2.1⟩
                · rcases hf13 _ e with h' | h'
                  · exact h.1 h'
                  · omega
                · rcases hj13 _ e with h' | h'
                  · exact h.2.1 h'
                  · omega
              · have hgl : g11 < W12.heap.size := HL12.out.2.2.1.lt
                refine ⟨fun e => ?_, fun e => ?_, hsep.2.2⟩
                · rcases hf13 _ e with h' | h'
                  · exact hsep.1 h'
                  · omega
                · rcases hj13 _ e with h' | h'
                  · exact hsep.2.1 h'
                  · omega
            have HPN := Lib.hid hPn
            clear hl13 hs13 hf13 hj13 hsep hold hPn
            go_wp2_with fail
            go_meet
            case rel => exact ⟨rfl, c, v', D2, j, rv', es', S2, rvw2, rfl, rfl, rfl, HPN.out⟩
        · by_cases k1 : kd = 1
          · as_aux_lemma =>
            subst k1
            have c0 : W10.cell? ⟨g14, 0, none⟩ = some (.int .i64 1) := by rw [HB14.out.1.cell]; rfl
            have c1 : W10.cell? ⟨g14, 1, none⟩ = some (.int .i64 nn) := by rw [HB14.out.1.cell]; rfl
            go_wp2_with fail
            refine (sbreak_calls g v D nn W10 HP10.out.live.lone.slab HKD.out.2.2).mono ?_
            rintro _ W11 ⟨rfl, hs11, hg11', hz11⟩
            have hl11 := HP10.out.live.brk hs11 hg11'
            have hng : g11 ≠ g := fun e => HP10.out.sepm.1 (.inl e)
            have hm11 := HP10.out.m.kept hg11' (by simpa using hng)
            have hrow11 := HP10.out.row.grown hg11' (.inr (fun e => (HP10.out.sepr g e).1 (.inl rfl)))
            have hn14 : g14 ≠ g := fun e => HB14.out.2 g (.inl (.inl (.inl rfl))) e.symm
            have c1' : W11.cell? ⟨g14, 1, none⟩ = some (.int .i64 nn) := by
              rw [World.cell?_of_block (hg11'.block g14 (block_lt_of_cell c1) (by simpa using hn14))]; exact c1
            have hll := hl11.jour.len
            have HL11 := Lib.hid (And.intro hl11 (And.intro hrow11 hll))
            clear c0 c1 hs11 hg11' hz11 hl11 hng hrow11 hn14 hll
            go_wp2_with ((with_reducible refine law_load g11 0 (dcells D).toList _ _ _ ?_ hm11 ?_ hu htd ?_ ?_); rfl; (intro i hi; rw [Nat.zero_add, rjcells_disk _ _ _ _ hi]; simp); exact Try.sdslab)
            refine (dbreak_calls D nn W11 HKD.out.2.2).mono ?_
            rintro _ W12 ⟨rfl, hg12⟩
            have hm12 := hm11.kept hg12 (by simp)
            have HL12 := Lib.hid (And.intro (HL11.out.1.step hg12) (HL11.out.2.1.grown hg12 (.inl rfl)))
            clear hm11 hg12 c1'
            go_wp2_with ((with_reducible refine law_store g11 0 (dcells (D.brk nn)).toList _ _ ?_ ?_ hm12 ?_ ?_ ?_ ?_); rfl; rfl; (rw [rjcells_size _ _ _ HL11.out.2.2]; show 0 + 4 ≤ 38; omega); exact dcells_one _; exact Try.sdslab)
            intro W13 hb13 hg13 hz13
            rw [rjcells_layd _ _ _ _ HL11.out.2.2] at hb13
            have hPn : Try.PInv w W13 g g11 v (D.brk nn) j rv es S rvw :=
              ⟨HL12.out.1.keep hg13 (by rintro _ ⟨⟩; exact HP10.out.sepm), hb13, HL12.out.2.grown hg13 (.inr (fun e => (HP10.out.sepr g11 e).2.2.1 rfl)), HP10.out.sepr, HP10.out.sepm, HP10.out.room, HP10.out.cnt, HP10.out.recs⟩
            have HPN := Lib.hid hPn
            clear hb13 hg13 hz13 hPn hm12
            go_wp2_with fail
            go_meet
            case rel => exact ⟨rfl, 0, v, D.brk nn, j, rv, es, S, rvw, rfl, rfl, rfl, HPN.out⟩
          · by_cases k2 : kd = 2
            · as_aux_lemma =>
              subst k2
              have c0 : W10.cell? ⟨g14, 0, none⟩ = some (.int .i64 2) := by rw [HB14.out.1.cell]; rfl
              have c1 : W10.cell? ⟨g14, 1, none⟩ = some (.int .i64 nn) := by rw [HB14.out.1.cell]; rfl
              go_wp2_with fail
              refine (scrash_calls g v D nn W10 HP10.out.live.lone.slab HKD.out.2.2 HKD.out.2.1).mono ?_
              rintro _ W11 ⟨rfl, v1, hs11, hg11', hz11, hv1⟩
              have hlone11 : Try.Lone w W11 g v1 (D.crash nn) := ⟨hs11, grown_new HP10.out.live.lone.grown hg11' (by rintro _ ⟨⟩; exact HP10.out.live.lone.new g (.inl rfl)), fun q hq => by
                rcases hq with rfl | hq
                · exact HP10.out.live.lone.new _ (.inl rfl)
                · rw [hv1] at hq; exact HP10.out.live.lone.new q (.inr hq)⟩
              have hng : g11 ≠ g := fun e => HP10.out.sepm.1 (.inl e)
              have hm11 := HP10.out.m.kept hg11' (by simpa using hng)
              have hn14 : g14 ≠ g := fun e => HB14.out.2 g (.inl (.inl (.inl rfl))) e.symm
              have c1' : W11.cell? ⟨g14, 1, none⟩ = some (.int .i64 nn) := by
                rw [World.cell?_of_block (hg11'.block g14 (block_lt_of_cell c1) (by simpa using hn14))]; exact c1
              have hsf : ¬ SFoot g v1 g11 := fun e => by
                rcases e with e | e
                · exact hng e
                · rw [hv1] at e; exact HP10.out.sepm.1 (.inr e)
              have HSF := Lib.hid (And.intro hsf hng)
              have hll := HP10.out.live.jour.len
              have HLL := Lib.hid (And.intro hll HP10.out.row.one)
              have HL11 := Lib.hid hlone11
              clear c0 c1 hs11 hg11' hz11 hv1 hlone11 hng hn14 hsf hll
              go_wp2_with ((with_reducible refine law_load g11 0 (dcells D).toList _ _ _ ?_ hm11 ?_ hu htd ?_ ?_); rfl; (intro i hi; rw [Nat.zero_add, rjcells_disk _ _ _ _ hi]; simp); exact Try.sdslab)
              refine (dcrash_calls D nn W11 HP10.out.live.lone.slab.ok).mono ?_
              rintro _ W12 ⟨rfl, hg12⟩
              obtain ⟨D1, hD1⟩ : ∃ x, x = D.crash nn := ⟨_, rfl⟩
              rw [← hD1]
              have hL12 := HL11.out.step hg12
              rw [← hD1] at hL12
              have hroom1 : D1.room ≤ 3000 := by rw [hD1]; exact HP10.out.room
              have HL12 := Lib.hid (And.intro hL12 hroom1)
              have hm12 := hm11.kept hg12 (by simp)
              clear hm11 hg12 c1' hD1 hL12 hroom1
              go_wp2_with ((with_reducible refine law_store g11 0 (dcells D1).toList _ _ ?_ ?_ hm12 ?_ ?_ ?_ ?_); rfl; rfl; (rw [rjcells_size _ _ _ HLL.out.1]; show 0 + 4 ≤ 38; omega); exact dcells_one _; exact Try.sdslab)
              intro W13 hb13 hg13 hz13
              rw [rjcells_layd _ _ _ _ HLL.out.1] at hb13
              have hsm : ∀ q, SFoot g v1 q → q ≠ g11 := fun q hq e => HSF.out.1 (e ▸ hq)
              have hL13 : Try.Lone w W13 g v1 D1 := ⟨HL12.out.1.slab.same (R := fun q => q ≠ g11) (Same.of_grown hg13 (fun q hq e => hq (Option.some.inj e))) hsm, grown_new HL12.out.1.grown hg13 (by rintro _ ⟨⟩; exact HP10.out.sepm.2.2), HL12.out.1.new⟩
              have HL13 := Lib.hid hL13
              clear hm12 hg13 hz13 hsm hL13
              go_wp2_with fail
              refine (jopen_live g v1 D1 W13 HL13.out).mono ?_
              rintro e8 W14 ⟨v2, hL14, hs14, hv14, hcase⟩
              have hm14 := hs14.blk hb13 HSF.out.2
              have hsf2 : ¬ SFoot g v2 g11 := fun e => by
                rcases e with e | e
                · exact HSF.out.2 e
                · rw [hv14] at e; exact HSF.out.1 (.inr e)
              have hg1l : g11 < W13.heap.size := hb13.lt
              have hz14 : W13.heap.size ≤ W14.heap.size := hs14.size
              have HSF2 := Lib.hid (And.intro hsf2 (And.intro hg1l hz14))
              have HC := Lib.hid hcase
              have HLO := Lib.hid hL14
              clear hs14 hv14 hb13 hsf2 hg1l hz14 hL14
              rcases hcase with ⟨s, hs, hc0, j8, rv8, es8, rfl, hl8, hj8⟩ | ⟨hno, rfl⟩
              · obtain ⟨_, hsl, hrecs, _⟩ := opened_some hs
                have hcnt := opened_cnt hs
                have hjr : jr (opened D1) = s := by unfold jr; rw [hs]; rfl
                have HQ := Lib.hid (And.intro hs (And.intro hc0 (And.intro hl8 (And.intro hj8 (And.intro hsl (And.intro hrecs (And.intro hcnt hjr)))))))
                clear hs hc0 hl8 hj8 hsl hrecs hcnt hjr
                go_wp2_with ((with_reducible refine law_load g11 0 (dcells D1).toList _ _ _ ?_ hm14 ?_ hu htd ?_ ?_); rfl; (intro i hi; rw [Nat.zero_add, rjcells_disk _ _ _ _ hi]; simp); exact Try.sdslab)
                refine (ropen_calls D1 W14 HL12.out.1.slab.ok).mono ?_
                rintro _ W15 ⟨hg15, rvw2, hrow15, rfl⟩
                obtain ⟨D2, hD2⟩ : ∃ d, d = (opened D1).2.1 := ⟨_, rfl⟩
                rw [HQ.out.2.2.2.2.2.2.2] at hrow15
                rw [HQ.out.2.1, HQ.out.2.2.2.2.2.2.2, ← hD2]
                have hm15 := hm14.kept hg15 (by simp)
                have HLO15 := Lib.hid (HQ.out.2.2.1.step hg15)
                have HD2 := Lib.hid hD2
                have hz15 := hg15.size
                have hw14 := HLO.out.grown.size
                clear hm14 hg15 hD2
                go_wp2_with ((with_reducible refine law_storew g11 (rjcells D2 rvw2 s) _ _ ?_ ?_ hm15 ?_ ?_ ?_ ?_); rfl; rfl; (rw [rjcells_size _ _ _ HQ.out.2.2.2.2.1, rjcells_size _ _ _ HLL.out.1]); exact rjcells_one _ _ _ hrow15.one; (rw [rjcells_size _ _ _ HQ.out.2.2.2.2.1]; exact Try.srjour))
                intro W16 hb16 hg16 hz16
                have hl14 : ∀ q, SFoot g v2 q ∨ JFoot j8 rv8 es8 q → q < W14.heap.size := fun q hq => hq.elim (HQ.out.2.2.1.lone.slab.lt q) (HQ.out.2.2.1.jour.lt q)
                have hPn : Try.PInv w W16 g g11 v2 D2 j8 rv8 es8 s rvw2 := by
                  have hne : rvw2.ownBlock ≠ some g11 := fun e => by have := (hrow15.lt _ e).1; have := HSF2.out.2.1; have := HSF2.out.2.2; omega
                  have hjf : ¬ JFoot j8 rv8 es8 g11 := fun e => by have := HQ.out.2.2.2.1 _ e; have := HSF2.out.2.1; omega
                  refine ⟨?_, hb16, row_to0 (hrow15.grown hg16 (.inr hne)), fun q hq => ?_, ⟨HSF2.out.1, hjf, HP10.out.sepm.2.2⟩, ?_, ?_, HQ.out.2.2.2.2.2.1⟩
                  · rw [HD2.out]; exact HLO15.out.keep hg16 (by rintro _ ⟨⟩; exact ⟨HSF2.out.1, hjf, HP10.out.sepm.2.2⟩)
                  · have h1 := (hrow15.lt q hq).1
                    exact ⟨fun e => by have := hl14 q (.inl e); omega, fun e => by have := hl14 q (.inr e); omega, fun e => hne (by rw [← e]; exact hq), by omega⟩
                  · rw [HD2.out, opened_room]; exact HL12.out.2
                  · rw [HD2.out]; exact HQ.out.2.2.2.2.2.2.1
                have HPN := Lib.hid hPn
                clear hm15 hrow15 hb16 hg16 hz16 hl14 hPn hz15 hw14
                go_wp2_with fail
                have hS0 : W16.drew.cell? ⟨g11, 3, none⟩ = some (vs D2.bytes) := by
                  show W16.cell? _ = _
                  rw [HPN.out.m.cell, rjcells_disk _ _ _ _ (by omega)]; rfl
                refine wp_region_held_drew (S := fun w' : World => w'.cell? ⟨g11, 3, none⟩ = some (vs D2.bytes)) (by kernel_rfl) hS0 (fun _ => ?_)
                refine anyH_take 0 (some 148) (v := ?_) rfl rfl (by kernel_rfl) (by kernel_rfl) (by kernel_rfl) (fun _ _ _ h => h) (Or.inl ⟨by rfl, ?_⟩) hS0 ?_
                rotate_left
                · intro w _
                  go_simp
                  try (with_reducible rfl)
                simp only [Act.put, List.setIfInBounds_toArray, List.set_cons_zero, List.set_cons_succ]
                refine anyH_take 1 (some 149) (v := ?_) rfl rfl (by kernel_rfl) (by kernel_rfl) (by kernel_rfl) (fun _ _ _ h => h) (Or.inl ⟨by rfl, ?_⟩) hS0 ?_
                rotate_left
                · intro w _
                  go_simp
                  try (with_reducible rfl)
                simp only [Act.put, List.setIfInBounds_toArray, List.set_cons_zero, List.set_cons_succ]
                refine anyH_take 2 (some 150) (v := ?_) rfl rfl (by kernel_rfl) (by kernel_rfl) (by kernel_rfl) (fun _ _ _ h => h) (Or.inl ⟨by rfl, ?_⟩) hS0 ?_
                rotate_left
                · intro w _
                  go_simp
                  try (with_reducible rfl)
                simp only [Act.put, List.setIfInBounds_toArray, List.set_cons_zero, List.set_cons_succ]
                refine anyH_take 3 (some 151) (v := ?_) rfl rfl (by kernel_rfl) (by kernel_rfl) (by kernel_rfl) (fun _ _ _ h => h) (Or.inl ⟨by rfl, ?_⟩) hS0 ?_
                rotate_left
                · intro w _
                  go_simp
                  try (with_reducible rfl)
                simp only [Act.put, List.setIfInBounds_toArray, List.set_cons_zero, List.set_cons_succ]
                refine anyH_take 4 (some 152) (v := ?_) rfl rfl (by kernel_rfl) (by kernel_rfl) (by kernel_rfl) (fun _ _ _ h => h) (Or.inl ⟨by rfl, ?_⟩) hS0 ?_
                rotate_left
                · intro w _
                  go_simp
                  try (with_reducible rfl)
                simp only [Act.put, List.setIfInBounds_toArray, List.set_cons_zero, List.set_cons_succ]
                refine anyH_take 7 (some 155) (v := ?_) rfl rfl (by kernel_rfl) (by kernel_rfl) (by kernel_rfl) (fun _ _ _ h => h) (Or.inl ⟨by rfl, ?_⟩) hS0 ?_
                rotate_left
                · intro w _
                  go_simp
                  try (with_reducible rfl)
                simp only [Act.put, List.setIfInBounds_toArray, List.set_cons_zero, List.set_cons_succ]
                refine anyH_take 8 (some 156) (v := ?_) rfl rfl (by kernel_rfl) (by kernel_rfl) (by kernel_rfl) (fun _ _ _ h => h) (Or.inl ⟨by rfl, ?_⟩) hS0 ?_
                rotate_left
                · intro w _
                  go_simp
                  try (with_reducible rfl)
                simp only [Act.put, List.setIfInBounds_toArray, List.set_cons_zero, List.set_cons_succ]
                refine anyH_take 9 (some 157) rfl rfl (by kernel_rfl) (by kernel_rfl) (by kernel_rfl) (fun _ _ _ h => h) (yieldsIf_load1 rfl rfl ⟨g11, 3, none⟩ (vs D2.bytes) _ rfl (fun _ h => h) Try.nstr rfl) hS0 ?_
                simp only [Act.put, List.setIfInBounds_toArray, List.set_cons_zero, List.set_cons_succ]
                refine wpAnyH_ready (rs := [5]) (by kernel_rfl) (by simp) ?_
                refine AllReadyH.cons rfl (fun K hK => ?_) AllReadyH.nil
                refine gstep_call (some 153) rfl rfl rfl #[.pointer (some ⟨g, 0, none⟩)] rfl (fun _ => by simp [go_sem]) (sbytes_calls g v2 D2 _ (HPN.out.step (grown_drew W16 none)).live.lone.slab) ?_
                rintro _ W17 ⟨u, rfl, hru, hg17⟩
                have hbu := hru.bytes
                have hS17 : W17.cell? ⟨g11, 3, none⟩ = some (vs D2.bytes) := cell_grown hg17 _ _ hS0
                refine ⟨_, rfl, ?_⟩
                refine hK.out _ _ hS17 (fun _ => ?_)
                clear hK K
                simp only [Act.put, List.setIfInBounds_toArray, List.set_cons_zero, List.set_cons_succ]
                refine wpAnyH_ready (rs := [6]) (by kernel_rfl) (by simp) ?_
                refine AllReadyH.cons rfl (fun K hK => ?_) AllReadyH.nil
                refine gstep_bstring (some 154) rfl rfl rfl _ D2.bytes 5 rfl hbu Try.ubytes Try.uu8 Try.ustr ?_
                refine hK.out _ _ hS17 (fun _ => ?_)
                clear hK K
                simp only [Act.put, List.setIfInBounds_toArray, List.set_cons_zero, List.set_cons_succ]
                refine anyH_take 10 (some 158) rfl rfl (by kernel_rfl) (by kernel_rfl) (by kernel_rfl) (fun _ _ _ h => h) (yieldsIf_sneq rfl rfl D2.bytes D2.bytes rfl rfl) hS17 ?_
                simp only [Act.put, List.setIfInBounds_toArray, List.set_cons_zero, List.set_cons_succ]
                refine anyH_take 11 (some 159) (v := ?_) rfl rfl (by kernel_rfl) (by kernel_rfl) (by kernel_rfl) (fun _ _ _ h => h) (Or.inl ⟨by rfl, ?_⟩) hS17 ?_
                rotate_left
                · intro w _
                  go_simp
                  try (with_reducible rfl)
                simp only [Act.put, List.setIfInBounds_toArray, List.set_cons_zero, List.set_cons_succ]
                refine wpAnyH_done (by kernel_rfl) ?_ _
                go_wp2_with fail
                go_meet
                case rel => exact ⟨rfl, 0, v2, D2, j8, rv8, es8, s, rvw2, rfl, rfl, rfl, HPN.out.step (grown_trans (grown_drew W16 none) hg17)⟩
              · have hcn := opened_none hno
                have hjr : jr (opened D1) = ⟨[], zero32, false⟩ := by unfold jr; rw [hno]; rfl
                clear hno
                go_wp2_with ((with_reducible refine law_load g11 0 (dcells D1).toList _ _ _ ?_ hm14 ?_ hu htd ?_ ?_); rfl; (intro i hi; rw [Nat.zero_add, rjcells_disk _ _ _ _ hi]; simp); exact Try.sdslab)
                refine (ropen_calls D1 W14 HL12.out.1.slab.ok).mono ?_
                rintro _ W15 ⟨hg15, rvw2, hrow15, rfl⟩
                obtain ⟨D2, hD2⟩ : ∃ d, d = (opened D1).2.1 := ⟨_, rfl⟩
                obtain ⟨c, hc⟩ : ∃ c, c = (opened D1).2.2 := ⟨_, rfl⟩
                rw [hjr, ← hD2, ← hc]
                rw [← hc] at hcn
                have hm15 := hm14.kept hg15 (by simp)
                have hone15 := hrow15.one
                have hlo15 := HLO.out.step hg15
                rw [← hD2] at hlo15
                have HLO15 := Lib.hid hlo15
                have HH := Lib.hid (And.intro hjr (And.intro hD2 (And.intro hc hone15)))
                clear hm14 hg15 hrow15 hjr hD2 hc hone15 hlo15
                go_wp2_with ((with_reducible refine law_storew g11 (rjcells D2 rvw2 ⟨[], zero32, false⟩) _ _ ?_ ?_ hm15 ?_ ?_ ?_ ?_); rfl; rfl; (rw [rjcells_size _ _ _ rfl, rjcells_size _ _ _ HLL.out.1]); exact rjcells_one _ _ _ HH.out.2.2.2; (rw [rjcells_size _ _ _ rfl]; exact Try.srjour))
                intro W16 hb16 hg16 hz16
                have hlo16 : Try.Lone w W16 g v2 D2 := ⟨HLO15.out.slab.same (R := fun q => q ≠ g11) (Same.of_grown hg16 (fun q hq e => hq (Option.some.inj e))) (fun q hq e => HSF2.out.1 (e ▸ hq)), grown_new HLO15.out.grown hg16 (by rintro _ ⟨⟩; exact HP10.out.sepm.2.2), HLO15.out.new⟩
                have HPN := Lib.hid hlo16
                have c3 : W16.cell? ⟨g11, 3, none⟩ = some (vs D2.bytes) := by
                  rw [hb16.cell, rjcells_disk _ _ _ _ (by omega)]; rfl
                have tc : (c != 0) = true := by rw [bne_iff_ne]; exact hcn
                have tc2 : (c == 0) = false := by rw [beq_eq_false_iff_ne]; exact hcn
                clear hm15 hb16 hg16 hz16 hlo16
                go_wp2_with fail
                have hS0 : W16.drew.cell? ⟨g11, 3, none⟩ = some (vs D2.bytes) := c3
                clear c3
                refine wp_region_held_drew (S := fun w' : World => w'.cell? ⟨g11, 3, none⟩ = some (vs D2.bytes)) (by kernel_rfl) hS0 (fun _ => ?_)
                refine anyH_take 0 (some 148) (v := ?_) rfl rfl (by kernel_rfl) (by kernel_rfl) (by kernel_rfl) (fun _ _ _ h => h) (Or.inl ⟨by rfl, ?_⟩) hS0 ?_
                rotate_left
                · intro w _
                  go_simp
                  try (with_reducible rfl)
                simp only [Act.put, List.setIfInBounds_toArray, List.set_cons_zero, List.set_cons_succ]
                refine anyH_take 1 (some 149) (v := ?_) rfl rfl (by kernel_rfl) (by kernel_rfl) (by kernel_rfl) (fun _ _ _ h => h) (Or.inl ⟨by rfl, ?_⟩) hS0 ?_
                rotate_left
                · intro w _
                  go_simp
                  try (with_reducible rfl)
                simp only [Act.put, List.setIfInBounds_toArray, List.set_cons_zero, List.set_cons_succ]
                refine anyH_take 2 (some 150) (v := ?_) rfl rfl (by kernel_rfl) (by kernel_rfl) (by kernel_rfl) (fun _ _ _ h => h) (Or.inl ⟨by rfl, ?_⟩) hS0 ?_
                rotate_left
                · intro w _
                  go_simp
                  try (with_reducible rfl)
                simp only [Act.put, List.setIfInBounds_toArray, List.set_cons_zero, List.set_cons_succ]
                refine anyH_take 3 (some 151) (v := ?_) rfl rfl (by kernel_rfl) (by kernel_rfl) (by kernel_rfl) (fun _ _ _ h => h) (Or.inl ⟨by rfl, ?_⟩) hS0 ?_
                rotate_left
                · intro w _
                  go_simp
                  try (with_reducible rfl)
                simp only [Act.put, List.setIfInBounds_toArray, List.set_cons_zero, List.set_cons_succ]
                refine anyH_take 4 (some 152) (v := ?_) rfl rfl (by kernel_rfl) (by kernel_rfl) (by kernel_rfl) (fun _ _ _ h => h) (Or.inl ⟨by rfl, ?_⟩) hS0 ?_
                rotate_left
                · intro w _
                  go_simp
                  try (with_reducible rfl)
                simp only [Act.put, List.setIfInBounds_toArray, List.set_cons_zero, List.set_cons_succ]
                refine anyH_take 7 (some 155) (v := ?_) rfl rfl (by kernel_rfl) (by kernel_rfl) (by kernel_rfl) (fun _ _ _ h => h) (Or.inl ⟨by rfl, ?_⟩) hS0 ?_
                rotate_left
                · intro w _
                  go_simp
                  try (with_reducible rfl)
                simp only [Act.put, List.setIfInBounds_toArray, List.set_cons_zero, List.set_cons_succ]
                refine anyH_take 8 (some 156) (v := ?_) rfl rfl (by kernel_rfl) (by kernel_rfl) (by kernel_rfl) (fun _ _ _ h => h) (Or.inl ⟨by rfl, ?_⟩) hS0 ?_
                rotate_left
                · intro w _
                  go_simp
                  try (with_reducible rfl)
                simp only [Act.put, List.setIfInBounds_toArray, List.set_cons_zero, List.set_cons_succ]
                refine anyH_take 9 (some 157) rfl rfl (by kernel_rfl) (by kernel_rfl) (by kernel_rfl) (fun _ _ _ h => h) (yieldsIf_load1 rfl rfl ⟨g11, 3, none⟩ (vs D2.bytes) _ rfl (fun _ h => h) Try.nstr rfl) hS0 ?_
                simp only [Act.put, List.setIfInBounds_toArray, List.set_cons_zero, List.set_cons_succ]
                refine wpAnyH_ready (rs := [5]) (by kernel_rfl) (by simp) ?_
                refine AllReadyH.cons rfl (fun K hK => ?_) AllReadyH.nil
                refine gstep_call (some 153) rfl rfl rfl #[.pointer (some ⟨g, 0, none⟩)] rfl (fun _ => by simp [go_sem]) (sbytes_calls g v2 D2 _ (HPN.out.step (grown_drew W16 none)).slab) ?_
                rintro _ W17 ⟨u, rfl, hru, hg17⟩
                have hbu := hru.bytes
                have hS17 : W17.cell? ⟨g11, 3, none⟩ = some (vs D2.bytes) := cell_grown hg17 _ _ hS0
                refine ⟨_, rfl, ?_⟩
                refine hK.out _ _ hS17 (fun _ => ?_)
                clear hK K
                simp only [Act.put, List.setIfInBounds_toArray, List.set_cons_zero, List.set_cons_succ]
                refine wpAnyH_ready (rs := [6]) (by kernel_rfl) (by simp) ?_
                refine AllReadyH.cons rfl (fun K hK => ?_) AllReadyH.nil
                refine gstep_bstring (some 154) rfl rfl rfl _ D2.bytes 5 rfl hbu Try.ubytes Try.uu8 Try.ustr ?_
                refine hK.out _ _ hS17 (fun _ => ?_)
                clear hK K
                simp only [Act.put, List.setIfInBounds_toArray, List.set_cons_zero, List.set_cons_succ]
                refine anyH_take 10 (some 158) rfl rfl (by kernel_rfl) (by kernel_rfl) (by kernel_rfl) (fun _ _ _ h => h) (yieldsIf_sneq rfl rfl D2.bytes D2.bytes rfl rfl) hS17 ?_
                simp only [Act.put, List.setIfInBounds_toArray, List.set_cons_zero, List.set_cons_succ]
                refine anyH_take 11 (some 159) (v := ?_) rfl rfl (by kernel_rfl) (by kernel_rfl) (by kernel_rfl) (fun _ _ _ h => h) (Or.inl ⟨by rfl, ?_⟩) hS17 ?_
                rotate_left
                · intro w _
                  go_simp
                  try (with_reducible rfl)
                simp only [Act.put, List.setIfInBounds_toArray, List.set_cons_zero, List.set_cons_succ]
                refine wpAnyH_done (by kernel_rfl) ?_ _
                have hGf := grown_trans (grown_trans HPN.out.grown (grown_drew W16 none)) hg17
                go_wp2_with fail
                go_ret
                exact ⟨rfl, hGf⟩
            · by_cases k3 : kd = 3
              · as_aux_lemma =>
                subst k3
                have c0 : W10.cell? ⟨g14, 0, none⟩ = some (.int .i64 3) := by rw [HB14.out.1.cell]; rfl
                have c1 : W10.cell? ⟨g14, 1, none⟩ = some (.int .i64 nn) := by rw [HB14.out.1.cell]; rfl
                have c2 : W10.cell? ⟨g14, 2, none⟩ = some (.int .u8 (xb.toNat : Int)) := by rw [HB14.out.1.cell]; rfl
                go_wp2_with fail
                refine (spoil_lone g v D nn xb W10 HP10.out.live.lone).mono ?_
                rintro _ W11 ⟨cc, rfl, hlone11, hnear⟩
                have hng : g11 ≠ g := fun e => HP10.out.sepm.1 (.inl e)
                have hm11 := hnear.blk HP10.out.m ⟨hng, fun e => HP10.out.sepm.1 (.inr e)⟩
                have hn14 : g14 ≠ g ∧ v.ownBlock ≠ some g14 := ⟨fun e => HB14.out.2 g (.inl (.inl (.inl rfl))) e.symm, fun e => HB14.out.2 g14 (.inl (.inl (.inr e))) rfl⟩
                have c1' : W11.cell? ⟨g14, 1, none⟩ = some (.int .i64 nn) := hnear.cell c1 hn14
                have c2' : W11.cell? ⟨g14, 2, none⟩ = some (.int .u8 (xb.toNat : Int)) := hnear.cell c2 hn14
                obtain ⟨v1, hv1⟩ : ∃ x, x = v := ⟨_, rfl⟩
                have HSF := Lib.hid (And.intro (show ¬ SFoot g v1 g11 from by rw [hv1]; exact HP10.out.sepm.1) hng)
                have HV1 := Lib.hid hv1
                clear hv1
                have hll := HP10.out.live.jour.len
                have HLL := Lib.hid (And.intro hll HP10.out.row.one)
                have HL11 := Lib.hid hlone11
                clear c0 c1 c2 hnear hlone11 hng hn14 hll
                go_wp2_with ((with_reducible refine law_load g11 0 (dcells D).toList _ _ _ ?_ hm11 ?_ hu htd ?_ ?_); rfl; (intro i hi; rw [Nat.zero_add, rjcells_disk _ _ _ _ hi]; simp); exact Try.sdslab)
                refine (dspoil_calls D nn xb W11 HP10.out.live.lone.slab.ok).mono ?_
                rintro _ W12 ⟨rfl, hg12⟩
                obtain ⟨D1, hD1⟩ : ∃ x, x = (D.dspoilt nn xb).1 := ⟨_, rfl⟩
                have hDs : D.spoilt nn xb = D1 := by rw [hD1]; unfold Disk.spoilt Disk.dspoilt; split <;> rfl
                rw [← hD1]
                have hL12 := HL11.out.step hg12
                rw [hDs] at hL12
                have hroom1 : D1.room ≤ 3000 := by rw [hD1]; unfold Disk.dspoilt; split <;> exact HP10.out.room
                have HL12 := Lib.hid (And.intro hL12 hroom1)
                rw [← HV1.out] at HL12
                have hm12 := hm11.kept hg12 (by simp)
                clear hm11 hg12 c1' c2' hD1 hL12 hroom1 hDs
                go_wp2_with ((with_reducible refine law_store g11 0 (dcells D1).toList _ _ ?_ ?_ hm12 ?_ ?_ ?_ ?_); rfl; rfl; (rw [rjcells_size _ _ _ HLL.out.1]; show 0 + 4 ≤ 38; omega); exact dcells_one _; exact Try.sdslab)
                intro W13 hb13 hg13 hz13
                rw [rjcells_layd _ _ _ _ HLL.out.1] at hb13
                have hsm : ∀ q, SFoot g v1 q → q ≠ g11 := fun q hq e => HSF.out.1 (e ▸ hq)
                have hL13 : Try.Lone w W13 g v1 D1 := ⟨HL12.out.1.slab.same (R := fun q => q ≠ g11) (Same.of_grown hg13 (fun q hq e => hq (Option.some.inj e))) hsm, grown_new HL12.out.1.grown hg13 (by rintro _ ⟨⟩; exact HP10.out.sepm.2.2), HL12.out.1.new⟩
                have HL13 := Lib.hid hL13
                clear hm12 hg13 hz13 hsm hL13
                go_wp2_with fail
                refine (jopen_live g v1 D1 W13 HL13.out).mono ?_
                rintro e8 W14 ⟨v2, hL14, hs14, hv14, hcase⟩
                have hm14 := hs14.blk hb13 HSF.out.2
                have hsf2 : ¬ SFoot g v2 g11 := fun e => by
                  rcases e with e | e
                  · exact HSF.out.2 e
                  · rw [hv14] at e; exact HSF.out.1 (.inr e)
                have hg1l : g11 < W13.heap.size := hb13.lt
                have hz14 : W13.heap.size ≤ W14.heap.size := hs14.size
                have HSF2 := Lib.hid (And.intro hsf2 (And.intro hg1l hz14))
                have HC := Lib.hid hcase
                have HLO := Lib.hid hL14
                clear hs14 hv14 hb13 hsf2 hg1l hz14 hL14
                rcases hcase with ⟨s, hs, hc0, j8, rv8, es8, rfl, hl8, hj8⟩ | ⟨hno, rfl⟩
                · obtain ⟨_, hsl, hrecs, _⟩ := opened_some hs
                  have hcnt := opened_cnt hs
                  have hjr : jr (opened D1) = s := by unfold jr; rw [hs]; rfl
                  have HQ := Lib.hid (And.intro hs (And.intro hc0 (And.intro hl8 (And.intro hj8 (And.intro hsl (And.intro hrecs (And.intro hcnt hjr)))))))
                  clear hs hc0 hl8 hj8 hsl hrecs hcnt hjr
                  go_wp2_with ((with_reducible refine law_load g11 0 (dcells D1).toList _ _ _ ?_ hm14 ?_ hu htd ?_ ?_); rfl; (intro i hi; rw [Nat.zero_add, rjcells_disk _ _ _ _ hi]; simp); exact Try.sdslab)
                  refine (ropen_calls D1 W14 HL12.out.1.slab.ok).mono ?_
                  rintro _ W15 ⟨hg15, rvw2, hrow15, rfl⟩
                  obtain ⟨D2, hD2⟩ : ∃ d, d = (opened D1).2.1 := ⟨_, rfl⟩
                  rw [HQ.out.2.2.2.2.2.2.2] at hrow15
                  rw [HQ.out.2.1, HQ.out.2.2.2.2.2.2.2, ← hD2]
                  have hm15 := hm14.kept hg15 (by simp)
                  have HLO15 := Lib.hid (HQ.out.2.2.1.step hg15)
                  have HD2 := Lib.hid hD2
                  have hz15 := hg15.size
                  have hw14 := HLO.out.grown.size
                  clear hm14 hg15 hD2
                  go_wp2_with ((with_reducible refine law_storew g11 (rjcells D2 rvw2 s) _ _ ?_ ?_ hm15 ?_ ?_ ?_ ?_); rfl; rfl; (rw [rjcells_size _ _ _ HQ.out.2.2.2.2.1, rjcells_size _ _ _ HLL.out.1]); exact rjcells_one _ _ _ hrow15.one; (rw [rjcells_size _ _ _ HQ.out.2.2.2.2.1]; exact Try.srjour))
                  intro W16 hb16 hg16 hz16
                  have hl14 : ∀ q, SFoot g v2 q ∨ JFoot j8 rv8 es8 q → q < W14.heap.size := fun q hq => hq.elim (HQ.out.2.2.1.lone.slab.lt q) (HQ.out.2.2.1.jour.lt q)
                  have hPn : Try.PInv w W16 g g11 v2 D2 j8 rv8 es8 s rvw2 := by
                    have hne : rvw2.ownBlock ≠ some g11 := fun e => by have := (hrow15.lt _ e).1; have := HSF2.out.2.1; have := HSF2.out.2.2; omega
                    have hjf : ¬ JFoot j8 rv8 es8 g11 := fun e => by have := HQ.out.2.2.2.1 _ e; have := HSF2.out.2.1; omega
                    refine ⟨?_, hb16, row_to0 (hrow15.grown hg16 (.inr hne)), fun q hq => ?_, ⟨HSF2.out.1, hjf, HP10.out.sepm.2.2⟩, ?_, ?_, HQ.out.2.2.2.2.2.1⟩
                    · rw [HD2.out]; exact HLO15.out.keep hg16 (by rintro _ ⟨⟩; exact ⟨HSF2.out.1, hjf, HP10.out.sepm.2.2⟩)
                    · have h1 := (hrow15.lt q hq).1
                      exact ⟨fun e => by have := hl14 q (.inl e); omega, fun e => by have := hl14 q (.inr e); omega, fun e => hne (by rw [← e]; exact hq), by omega⟩
                    · rw [HD2.out, opened_room]; exact HL12.out.2
                    · rw [HD2.out]; exact HQ.out.2.2.2.2.2.2.1
                  have HPN := Lib.hid hPn
                  clear hm15 hrow15 hb16 hg16 hz16 hl14 hPn hz15 hw14
                  go_wp2_with fail
                  have hS0 : W16.drew.cell? ⟨g11, 3, none⟩ = some (vs D2.bytes) := by
                    show W16.cell? _ = _
                    rw [HPN.out.m.cell, rjcells_disk _ _ _ _ (by omega)]; rfl
                  refine wp_region_held_drew (S := fun w' : World => w'.cell? ⟨g11, 3, none⟩ = some (vs D2.bytes)) (by kernel_rfl) hS0 (fun _ => ?_)
                  refine anyH_take 0 (some 148) (v := ?_) rfl rfl (by kernel_rfl) (by kernel_rfl) (by kernel_rfl) (fun _ _ _ h => h) (Or.inl ⟨by rfl, ?_⟩) hS0 ?_
                  rotate_left
                  · intro w _
                    go_simp
                    try (with_reducible rfl)
                  simp only [Act.put, List.setIfInBounds_toArray, List.set_cons_zero, List.set_cons_succ]
                  refine anyH_take 1 (some 149) (v := ?_) rfl rfl (by kernel_rfl) (by kernel_rfl) (by kernel_rfl) (fun _ _ _ h => h) (Or.inl ⟨by rfl, ?_⟩) hS0 ?_
                  rotate_left
                  · intro w _
                    go_simp
                    try (with_reducible rfl)
                  simp only [Act.put, List.setIfInBounds_toArray, List.set_cons_zero, List.set_cons_succ]
                  refine anyH_take 2 (some 150) (v := ?_) rfl rfl (by kernel_rfl) (by kernel_rfl) (by kernel_rfl) (fun _ _ _ h => h) (Or.inl ⟨by rfl, ?_⟩) hS0 ?_
                  rotate_left
                  · intro w _
                    go_simp
                    try (with_reducible rfl)
                  simp only [Act.put, List.setIfInBounds_toArray, List.set_cons_zero, List.set_cons_succ]
                  refine anyH_take 3 (some 151) (v := ?_) rfl rfl (by kernel_rfl) (by kernel_rfl) (by kernel_rfl) (fun _ _ _ h => h) (Or.inl ⟨by rfl, ?_⟩) hS0 ?_
                  rotate_left
                  · intro w _
                    go_simp
                    try (with_reducible rfl)
                  simp only [Act.put, List.setIfInBounds_toArray, List.set_cons_zero, List.set_cons_succ]
                  refine anyH_take 4 (some 152) (v := ?_) rfl rfl (by kernel_rfl) (by kernel_rfl) (by kernel_rfl) (fun _ _ _ h => h) (Or.inl ⟨by rfl, ?_⟩) hS0 ?_
                  rotate_left
                  · intro w _
                    go_simp
                    try (with_reducible rfl)
                  simp only [Act.put, List.setIfInBounds_toArray, List.set_cons_zero, List.set_cons_succ]
                  refine anyH_take 7 (some 155) (v := ?_) rfl rfl (by kernel_rfl) (by kernel_rfl) (by kernel_rfl) (fun _ _ _ h => h) (Or.inl ⟨by rfl, ?_⟩) hS0 ?_
                  rotate_left
                  · intro w _
                    go_simp
                    try (with_reducible rfl)
                  simp only [Act.put, List.setIfInBounds_toArray, List.set_cons_zero, List.set_cons_succ]
                  refine anyH_take 8 (some 156) (v := ?_) rfl rfl (by kernel_rfl) (by kernel_rfl) (by kernel_rfl) (fun _ _ _ h => h) (Or.inl ⟨by rfl, ?_⟩) hS0 ?_
                  rotate_left
                  · intro w _
                    go_simp
                    try (with_reducible rfl)
                  simp only [Act.put, List.setIfInBounds_toArray, List.set_cons_zero, List.set_cons_succ]
                  refine anyH_take 9 (some 157) rfl rfl (by kernel_rfl) (by kernel_rfl) (by kernel_rfl) (fun _ _ _ h => h) (yieldsIf_load1 rfl rfl ⟨g11, 3, none⟩ (vs D2.bytes) _ rfl (fun _ h => h) Try.nstr rfl) hS0 ?_
                  simp only [Act.put, List.setIfInBounds_toArray, List.set_cons_zero, List.set_cons_succ]
                  refine wpAnyH_ready (rs := [5]) (by kernel_rfl) (by simp) ?_
                  refine AllReadyH.cons rfl (fun K hK => ?_) AllReadyH.nil
                  refine gstep_call (some 153) rfl rfl rfl #[.pointer (some ⟨g, 0, none⟩)] rfl (fun _ => by simp [go_sem]) (sbytes_calls g v2 D2 _ (HPN.out.step (grown_drew W16 none)).live.lone.slab) ?_
                  rintro _ W17 ⟨u, rfl, hru, hg17⟩
                  have hbu := hru.bytes
                  have hS17 : W17.cell? ⟨g11, 3, none⟩ = some (vs D2.bytes) := cell_grown hg17 _ _ hS0
                  refine ⟨_, rfl, ?_⟩
                  refine hK.out _ _ hS17 (fun _ => ?_)
                  clear hK K
                  simp only [Act.put, List.setIfInBounds_toArray, List.set_cons_zero, List.set_cons_succ]
                  refine wpAnyH_ready (rs := [6]) (by kernel_rfl) (by simp) ?_
                  refine AllReadyH.cons rfl (fun K hK => ?_) AllReadyH.nil
                  refine gstep_bstring (some 154) rfl rfl rfl _ D2.bytes 5 rfl hbu Try.ubytes Try.uu8 Try.ustr ?_
                  refine hK.out _ _ hS17 (fun _ => ?_)
                  clear hK K
                  simp only [Act.put, List.setIfInBounds_toArray, List.set_cons_zero, List.set_cons_succ]
                  refine anyH_take 10 (some 158) rfl rfl (by kernel_rfl) (by kernel_rfl) (by kernel_rfl) (fun _ _ _ h => h) (yieldsIf_sneq rfl rfl D2.bytes D2.bytes rfl rfl) hS17 ?_
                  simp only [Act.put, List.setIfInBounds_toArray, List.set_cons_zero, List.set_cons_succ]
                  refine anyH_take 11 (some 159) (v := ?_) rfl rfl (by kernel_rfl) (by kernel_rfl) (by kernel_rfl) (fun _ _ _ h => h) (Or.inl ⟨by rfl, ?_⟩) hS17 ?_
                  rotate_left
                  · intro w _
                    go_simp
                    try (with_reducible rfl)
                  simp only [Act.put, List.setIfInBounds_toArray, List.set_cons_zero, List.set_cons_succ]
                  refine wpAnyH_done (by kernel_rfl) ?_ _
                  go_wp2_with fail
                  go_meet
                  case rel => exact ⟨rfl, 0, v2, D2, j8, rv8, es8, s, rvw2, rfl, rfl, rfl, HPN.out.step (grown_trans (grown_drew W16 none) hg17)⟩
                · have hcn := opened_none hno
                  have hjr : jr (opened D1) = ⟨[], zero32, false⟩ := by unfold jr; rw [hno]; rfl
                  clear hno
                  go_wp2_with ((with_reducible refine law_load g11 0 (dcells D1).toList _ _ _ ?_ hm14 ?_ hu htd ?_ ?_); rfl; (intro i hi; rw [Nat.zero_add, rjcells_disk _ _ _ _ hi]; simp); exact Try.sdslab)
                  refine (ropen_calls D1 W14 HL12.out.1.slab.ok).mono ?_
                  rintro _ W15 ⟨hg15, rvw2, hrow15, rfl⟩
                  obtain ⟨D2, hD2⟩ : ∃ d, d = (opened D1).2.1 := ⟨_, rfl⟩
                  obtain ⟨c, hc⟩ : ∃ c, c = (opened D1).2.2 := ⟨_, rfl⟩
                  rw [hjr, ← hD2, ← hc]
                  rw [← hc] at hcn
                  have hm15 := hm14.kept hg15 (by simp)
                  have hone15 := hrow15.one
                  have hlo15 := HLO.out.step hg15
                  rw [← hD2] at hlo15
                  have HLO15 := Lib.hid hlo15
                  have HH := Lib.hid (And.intro hjr (And.intro hD2 (And.intro hc hone15)))
                  clear hm14 hg15 hrow15 hjr hD2 hc hone15 hlo15
                  go_wp2_with ((with_reducible refine law_storew g11 (rjcells D2 rvw2 ⟨[], zero32, false⟩) _ _ ?_ ?_ hm15 ?_ ?_ ?_ ?_); rfl; rfl; (rw [rjcells_size _ _ _ rfl, rjcells_size _ _ _ HLL.out.1]); exact rjcells_one _ _ _ HH.out.2.2.2; (rw [rjcells_size _ _ _ rfl]; exact Try.srjour))
                  intro W16 hb16 hg16 hz16
                  have hlo16 : Try.Lone w W16 g v2 D2 := ⟨HLO15.out.slab.same (R := fun q => q ≠ g11) (Same.of_grown hg16 (fun q hq e => hq (Option.some.inj e))) (fun q hq e => HSF2.out.1 (e ▸ hq)), grown_new HLO15.out.grown hg16 (by rintro _ ⟨⟩; exact HP10.out.sepm.2.2), HLO15.out.new⟩
                  have HPN := Lib.hid hlo16
                  have c3 : W16.cell? ⟨g11, 3, none⟩ = some (vs D2.bytes) := by
                    rw [hb16.cell, rjcells_disk _ _ _ _ (by omega)]; rfl
                  have tc : (c != 0) = true := by rw [bne_iff_ne]; exact hcn
                  have tc2 : (c == 0) = false := by rw [beq_eq_false_iff_ne]; exact hcn
                  clear hm15 hb16 hg16 hz16 hlo16
                  go_wp2_with fail
                  have hS0 : W16.drew.cell? ⟨g11, 3, none⟩ = some (vs D2.bytes) := c3
                  clear c3
                  refine wp_region_held_drew (S := fun w' : World => w'.cell? ⟨g11, 3, none⟩ = some (vs D2.bytes)) (by kernel_rfl) hS0 (fun _ => ?_)
                  refine anyH_take 0 (some 148) (v := ?_) rfl rfl (by kernel_rfl) (by kernel_rfl) (by kernel_rfl) (fun _ _ _ h => h) (Or.inl ⟨by rfl, ?_⟩) hS0 ?_
                  rotate_left
                  · intro w _
                    go_simp
                    try (with_reducible rfl)
                  simp only [Act.put, List.setIfInBounds_toArray, List.set_cons_zero, List.set_cons_succ]
                  refine anyH_take 1 (some 149) (v := ?_) rfl rfl (by kernel_rfl) (by kernel_rfl) (by kernel_rfl) (fun _ _ _ h => h) (Or.inl ⟨by rfl, ?_⟩) hS0 ?_
                  rotate_left
                  · intro w _
                    go_simp
                    try (with_reducible rfl)
                  simp only [Act.put, List.setIfInBounds_toArray, List.set_cons_zero, List.set_cons_succ]
                  refine anyH_take 2 (some 150) (v := ?_) rfl rfl (by kernel_rfl) (by kernel_rfl) (by kernel_rfl) (fun _ _ _ h => h) (Or.inl ⟨by rfl, ?_⟩) hS0 ?_
                  rotate_left
                  · intro w _
                    go_simp
                    try (with_reducible rfl)
                  simp only [Act.put, List.setIfInBounds_toArray, List.set_cons_zero, List.set_cons_succ]
                  refine anyH_take 3 (some 151) (v := ?_) rfl rfl (by kernel_rfl) (by kernel_rfl) (by kernel_rfl) (fun _ _ _ h => h) (Or.inl ⟨by rfl, ?_⟩) hS0 ?_
                  rotate_left
                  · intro w _
                    go_simp
                    try (with_reducible rfl)
                  simp only [Act.put, List.setIfInBounds_toArray, List.set_cons_zero, List.set_cons_succ]
                  refine anyH_take 4 (some 152) (v := ?_) rfl rfl (by kernel_rfl) (by kernel_rfl) (by kernel_rfl) (fun _ _ _ h => h) (Or.inl ⟨by rfl, ?_⟩) hS0 ?_
                  rotate_left
                  · intro w _
                    go_simp
                    try (with_reducible rfl)
                  simp only [Act.put, List.setIfInBounds_toArray, List.set_cons_zero, List.set_cons_succ]
                  refine anyH_take 7 (some 155) (v := ?_) rfl rfl (by kernel_rfl) (by kernel_rfl) (by kernel_rfl) (fun _ _ _ h => h) (Or.inl ⟨by rfl, ?_⟩) hS0 ?_
                  rotate_left
                  · intro w _
                    go_simp
                    try (with_reducible rfl)
                  simp only [Act.put, List.setIfInBounds_toArray, List.set_cons_zero, List.set_cons_succ]
                  refine anyH_take 8 (some 156) (v := ?_) rfl rfl (by kernel_rfl) (by kernel_rfl) (by kernel_rfl) (fun _ _ _ h => h) (Or.inl ⟨by rfl, ?_⟩) hS0 ?_
                  rotate_left
                  · intro w _
                    go_simp
                    try (with_reducible rfl)
                  simp only [Act.put, List.setIfInBounds_toArray, List.set_cons_zero, List.set_cons_succ]
                  refine anyH_take 9 (some 157) rfl rfl (by kernel_rfl) (by kernel_rfl) (by kernel_rfl) (fun _ _ _ h => h) (yieldsIf_load1 rfl rfl ⟨g11, 3, none⟩ (vs D2.bytes) _ rfl (fun _ h => h) Try.nstr rfl) hS0 ?_
                  simp only [Act.put, List.setIfInBounds_toArray, List.set_cons_zero, List.set_cons_succ]
                  refine wpAnyH_ready (rs := [5]) (by kernel_rfl) (by simp) ?_
                  refine AllReadyH.cons rfl (fun K hK => ?_) AllReadyH.nil
                  refine gstep_call (some 153) rfl rfl rfl #[.pointer (some ⟨g, 0, none⟩)] rfl (fun _ => by simp [go_sem]) (sbytes_calls g v2 D2 _ (HPN.out.step (grown_drew W16 none)).slab) ?_
                  rintro _ W17 ⟨u, rfl, hru, hg17⟩
                  have hbu := hru.bytes
                  have hS17 : W17.cell? ⟨g11, 3, none⟩ = some (vs D2.bytes) := cell_grown hg17 _ _ hS0
                  refine ⟨_, rfl, ?_⟩
                  refine hK.out _ _ hS17 (fun _ => ?_)
                  clear hK K
                  simp only [Act.put, List.setIfInBounds_toArray, List.set_cons_zero, List.set_cons_succ]
                  refine wpAnyH_ready (rs := [6]) (by kernel_rfl) (by simp) ?_
                  refine AllReadyH.cons rfl (fun K hK => ?_) AllReadyH.nil
                  refine gstep_bstring (some 154) rfl rfl rfl _ D2.bytes 5 rfl hbu Try.ubytes Try.uu8 Try.ustr ?_
                  refine hK.out _ _ hS17 (fun _ => ?_)
                  clear hK K
                  simp only [Act.put, List.setIfInBounds_toArray, List.set_cons_zero, List.set_cons_succ]
                  refine anyH_take 10 (some 158) rfl rfl (by kernel_rfl) (by kernel_rfl) (by kernel_rfl) (fun _ _ _ h => h) (yieldsIf_sneq rfl rfl D2.bytes D2.bytes rfl rfl) hS17 ?_
                  simp only [Act.put, List.setIfInBounds_toArray, List.set_cons_zero, List.set_cons_succ]
                  refine anyH_take 11 (some 159) (v := ?_) rfl rfl (by kernel_rfl) (by kernel_rfl) (by kernel_rfl) (fun _ _ _ h => h) (Or.inl ⟨by rfl, ?_⟩) hS17 ?_
                  rotate_left
                  · intro w _
                    go_simp
                    try (with_reducible rfl)
                  simp only [Act.put, List.setIfInBounds_toArray, List.set_cons_zero, List.set_cons_succ]
                  refine wpAnyH_done (by kernel_rfl) ?_ _
                  have hGf := grown_trans (grown_trans HPN.out.grown (grown_drew W16 none)) hg17
                  go_wp2_with fail
                  go_ret
                  exact ⟨rfl, hGf⟩
              · as_aux_lemma =>
                have t0 : (kd == 0) = false := by rw [beq_eq_false_iff_ne]; exact k0
                have t1 : (kd == 1) = false := by rw [beq_eq_false_iff_ne]; exact k1
                have t2 : (kd == 2) = false := by rw [beq_eq_false_iff_ne]; exact k2
                have t3 : (kd == 3) = false := by rw [beq_eq_false_iff_ne]; exact k3
                have c0 : W10.cell? ⟨g14, 0, none⟩ = some (.int .i64 kd) := by rw [HB14.out.1.cell]; rfl
                go_wp2_with fail
                go_meet
                case rel => exact ⟨rfl, 0, v, D, j, rv, es, S, rvw, rfl, rfl, rfl, HP10.out⟩
      case rest =>
        obtain ⟨rfl, c, v, D, j, rv, es, S, rvw, rfl, rfl, rfl, hP⟩ := hcut
        as_aux_lemma =>
          obtain ⟨adr, nr, capr, hrv⟩ := hP.row.shape
          subst hrv
          obtain ⟨N, hN⟩ : ∃ N, N = S.records.length := ⟨_, rfl⟩
          obtain rfl : N = nr := by have := hP.row.len.1; rw [List.length_map] at this; omega
          have HP := Lib.hid hP
          have HNN := Lib.hid hN
          have hll := hP.live.jour.len
          have HLL := Lib.hid hll
          have hNB : N ≤ 4194304 := by have := hP.cnt; have := hP.live.lone.slab.ok.fits; have := hP.room; omega
          have hS0 : Blk wc.drew g11 (rjcells D (.slice adr N capr) S) 52 := hP.m
          clear hP hN hll HP10 HB14 HDT HKD
          go_wp2_with fail
          refine wp_region_held_drew (S := fun w' : World => Blk w' g11 (rjcells D (.slice adr N capr) S) 52) (by kernel_rfl) hS0 (fun _ => ?_)
          refine anyH_take 0 (some 163) (v := ?_) rfl rfl (by kernel_rfl) (by kernel_rfl) (by kernel_rfl) (fun _ _ _ h => h) (Or.inl ⟨by rfl, ?_⟩) hS0 ?_
          rotate_left
          · intro w _
            go_simp
            try (with_reducible rfl)
          simp only [Act.put, List.setIfInBounds_toArray, List.set_cons_zero, List.set_cons_succ]
          refine anyH_take 1 (some 164) (v := ?_) rfl rfl (by kernel_rfl) (by kernel_rfl) (by kernel_rfl) (fun _ _ _ h => h) (Or.inl ⟨by rfl, ?_⟩) hS0 ?_
          rotate_left
          · intro w _
            go_simp
            try (with_reducible rfl)
          simp only [Act.put, List.setIfInBounds_toArray, List.set_cons_zero, List.set_cons_succ]
          refine anyH_take 2 (some 165) (v := ?_) rfl rfl (by kernel_rfl) (by kernel_rfl) (by kernel_rfl) (fun _ _ _ h => h) (Or.inl ⟨by rfl, ?_⟩) hS0 ?_
          rotate_left
          · intro w _
            go_simp
            try (with_reducible rfl)
          simp only [Act.put, List.setIfInBounds_toArray, List.set_cons_zero, List.set_cons_succ]
          refine anyH_take 3 (some 166) (v := ?_) rfl rfl (by kernel_rfl) (by kernel_rfl) (by kernel_rfl) (fun _ _ _ h => h) (Or.inl ⟨by rfl, ?_⟩) hS0 ?_
          rotate_left
          · intro w _
            go_simp
            try (with_reducible rfl)
          simp only [Act.put, List.setIfInBounds_toArray, List.set_cons_zero, List.set_cons_succ]
          refine anyH_take 4 (some 167) (v := ?_) rfl rfl (by kernel_rfl) (by kernel_rfl) (by kernel_rfl) (fun _ _ _ h => h) (Or.inl ⟨by rfl, ?_⟩) hS0 ?_
          rotate_left
          · intro w _
            go_simp
            try (with_reducible rfl)
          simp only [Act.put, List.setIfInBounds_toArray, List.set_cons_zero, List.set_cons_succ]
          refine anyH_take 7 (some 170) (v := ?_) rfl rfl (by kernel_rfl) (by kernel_rfl) (by kernel_rfl) (fun _ _ _ h => h) (Or.inl ⟨by rfl, ?_⟩) hS0 ?_
          rotate_left
          · intro w _
            go_simp
            try (with_reducible rfl)
          simp only [Act.put, List.setIfInBounds_toArray, List.set_cons_zero, List.set_cons_succ]
          refine anyH_take 8 (some 171) (v := ?_) rfl rfl (by kernel_rfl) (by kernel_rfl) (by kernel_rfl) (fun _ _ _ h => h) (Or.inl ⟨by rfl, ?_⟩) hS0 ?_
          rotate_left
          · intro w _
            go_simp
            try (with_reducible rfl)
          simp only [Act.put, List.setIfInBounds_toArray, List.set_cons_zero, List.set_cons_succ]
          refine anyH_take 9 (some 172) rfl rfl (by kernel_rfl) (by kernel_rfl) (by kernel_rfl) (fun _ _ _ h => h) (yieldsIf_load1 rfl rfl ⟨g11, 3, none⟩ (vs D.bytes) _ rfl (fun _ h => by rw [h.cell, rjcells_disk _ _ _ _ (by omega)]; rfl) Try.nstr rfl) hS0 ?_
          simp only [Act.put, List.setIfInBounds_toArray, List.set_cons_zero, List.set_cons_succ]
          refine wpAnyH_ready (rs := [5]) (by kernel_rfl) (by simp) ?_
          refine AllReadyH.cons rfl (fun K hK => ?_) AllReadyH.nil
          refine gstep_call (some 168) rfl rfl rfl #[.pointer (some ⟨g, 0, none⟩)] rfl (fun _ => by simp [go_sem]) (sbytes_calls g v D _ (HP.out.step (grown_drew wc none)).live.lone.slab) ?_
          rintro _ W17 ⟨u, rfl, hru, hg17⟩
          have hbu := hru.bytes
          have hS17 : Blk W17 g11 (rjcells D (.slice adr N capr) S) 52 := hS0.kept hg17 (by simp)
          refine ⟨_, rfl, ?_⟩
          refine hK.out _ _ hS17 (fun _ => ?_)
          clear hK K
          simp only [Act.put, List.setIfInBounds_toArray, List.set_cons_zero, List.set_cons_succ]
          refine wpAnyH_ready (rs := [6]) (by kernel_rfl) (by simp) ?_
          refine AllReadyH.cons rfl (fun K hK => ?_) AllReadyH.nil
          refine gstep_bstring (some 169) rfl rfl rfl _ D.bytes 5 rfl hbu Try.ubytes Try.uu8 Try.ustr ?_
          refine hK.out _ _ hS17 (fun _ => ?_)
          clear hK K
          simp only [Act.put, List.setIfInBounds_toArray, List.set_cons_zero, List.set_cons_succ]
          refine anyH_take 10 (some 173) rfl rfl (by kernel_rfl) (by kernel_rfl) (by kernel_rfl) (fun _ _ _ h => h) (yieldsIf_sneq rfl rfl D.bytes D.bytes rfl rfl) hS17 ?_
          simp only [Act.put, List.setIfInBounds_toArray, List.set_cons_zero, List.set_cons_succ]
          refine anyH_take 11 (some 174) (v := ?_) rfl rfl (by kernel_rfl) (by kernel_rfl) (by kernel_rfl) (fun _ _ _ h => h) (Or.inl ⟨by rfl, ?_⟩) hS17 ?_
          rotate_left
          · intro w _
            go_simp
            try (with_reducible rfl)
          simp only [Act.put, List.setIfInBounds_toArray, List.set_cons_zero, List.set_cons_succ]
          refine anyH_take 12 (some 175) (v := ?_) rfl rfl (by kernel_rfl) (by kernel_rfl) (by kernel_rfl) (fun _ _ _ h => h) (Or.inl ⟨by rfl, ?_⟩) hS17 ?_
          rotate_left
          · intro w _
            go_simp
            try (with_reducible rfl)
          simp only [Act.put, List.setIfInBounds_toArray, List.set_cons_zero, List.set_cons_succ]
          refine anyH_take 13 (some 176) (v := ?_) rfl rfl (by kernel_rfl) (by kernel_rfl) (by kernel_rfl) (fun _ _ _ h => h) (Or.inl ⟨by rfl, ?_⟩) hS17 ?_
          rotate_left
          · intro w _
            go_simp
            try (with_reducible rfl)
          simp only [Act.put, List.setIfInBounds_toArray, List.set_cons_zero, List.set_cons_succ]
          refine anyH_take 15 (some 178) (v := ?_) rfl rfl (by kernel_rfl) (by kernel_rfl) (by kernel_rfl) (fun _ _ _ h => h) (Or.inl ⟨by rfl, ?_⟩) hS17 ?_
          rotate_left
          · intro w _
            go_simp
            try (with_reducible rfl)
          simp only [Act.put, List.setIfInBounds_toArray, List.set_cons_zero, List.set_cons_succ]
          refine anyH_take 16 (some 179) rfl rfl (by kernel_rfl) (by kernel_rfl) (by kernel_rfl) (fun _ _ _ h => h) (yieldsIf_load1 rfl rfl ⟨g11, 4, none⟩ (.slice adr N capr) _ rfl (fun _ h => by rw [h.cell]; exact rjcells_rv _ _ _) Try.ustrs rfl) hS17 ?_
          simp only [Act.put, List.setIfInBounds_toArray, List.set_cons_zero, List.set_cons_succ]
          refine anyH_take 17 (some 180) (v := ?_) rfl rfl (by kernel_rfl) (by kernel_rfl) (by kernel_rfl) (fun _ _ _ h => h) (Or.inl ⟨by rfl, ?_⟩) hS17 ?_
          rotate_left
          · intro w _
            go_simp
            try (with_reducible rfl)
          simp only [Act.put, List.setIfInBounds_toArray, List.set_cons_zero, List.set_cons_succ]
          refine wpAnyH_ready (rs := [14]) (by kernel_rfl) (by simp) ?_
          refine AllReadyH.cons rfl (fun K hK => ?_) AllReadyH.nil
          refine gstep_call (some 177) rfl rfl rfl #[.pointer (some ⟨j, 0, none⟩)] rfl (fun _ => by simp [go_sem]) (jlen_calls j g rv es S _ ((HP.out.step (grown_drew wc none)).step hg17).live.jour) ?_
          rintro _ _ ⟨rfl, rfl⟩
          rw [← HNN.out]
          refine ⟨_, rfl, ?_⟩
          refine hK.out _ _ hS17 (fun _ => ?_)
          clear hK K
          simp only [Act.put, List.setIfInBounds_toArray, List.set_cons_zero, List.set_cons_succ]
          refine anyH_take 18 (some 181) (v := ?_) rfl rfl (by kernel_rfl) (by kernel_rfl) (by kernel_rfl) (fun _ _ _ h => h) (Or.inl ⟨by rfl, ?_⟩) hS17 ?_
          rotate_left
          · intro w _
            go_simp
            try (with_reducible rfl)
          simp only [Act.put, List.setIfInBounds_toArray, List.set_cons_zero, List.set_cons_succ]
          refine anyH_take 19 (some 182) (v := ?_) rfl rfl (by kernel_rfl) (by kernel_rfl) (by kernel_rfl) (fun _ _ _ h => h) (Or.inl ⟨by rfl, ?_⟩) hS17 ?_
          rotate_left
          · intro w _
            go_simp
            try (with_reducible rfl)
          simp only [Act.put, List.setIfInBounds_toArray, List.set_cons_zero, List.set_cons_succ]
          refine anyH_take 20 (some 183) (v := ?_) rfl rfl (by kernel_rfl) (by kernel_rfl) (by kernel_rfl) (fun _ _ _ h => h) (Or.inl ⟨by rfl, ?_⟩) hS17 ?_
          rotate_left
          · intro w _
            go_simp
            try (with_reducible rfl)
          simp only [Act.put, List.setIfInBounds_toArray, List.set_cons_zero, List.set_cons_succ]
          refine anyH_take 21 (some 184) (v := ?_) rfl rfl (by kernel_rfl) (by kernel_rfl) (by kernel_rfl) (fun _ _ _ h => h) (Or.inl ⟨by rfl, ?_⟩) hS17 ?_
          rotate_left
          · intro w _
            go_simp
            try (with_reducible rfl)
          simp only [Act.put, List.setIfInBounds_toArray, List.set_cons_zero, List.set_cons_succ]
          refine anyH_take 23 (some 186) (v := ?_) rfl rfl (by kernel_rfl) (by kernel_rfl) (by kernel_rfl) (fun _ _ _ h => h) (Or.inl ⟨by rfl, ?_⟩) hS17 ?_
          rotate_left
          · intro w _
            go_simp
            try (with_reducible rfl)
          simp only [Act.put, List.setIfInBounds_toArray, List.set_cons_zero, List.set_cons_succ]
          refine anyH_take 24 (some 187) rfl rfl (by kernel_rfl) (by kernel_rfl) (by kernel_rfl) (fun _ _ _ h => h) (yieldsIf_load rfl rfl g11 5 (S.last.map vb) _ _ _ rfl (fun _ h => h) (by intro i hi; rw [List.length_map] at hi; rw [rjcells_last _ _ _ i hi]; simp [List.getD_eq_getElem?_getD, List.getElem?_eq_getElem hi]) Try.uid rfl (by rw [Try.sid, List.length_map, HLL.out])) hS17 ?_
          simp only [Act.put, List.setIfInBounds_toArray, List.set_cons_zero, List.set_cons_succ]
          refine wpAnyH_ready (rs := [22]) (by kernel_rfl) (by simp) ?_
          refine AllReadyH.cons rfl (fun K hK => ?_) AllReadyH.nil
          refine gstep_call (some 185) rfl rfl rfl #[.pointer (some ⟨j, 0, none⟩)] rfl (fun _ => by simp [go_sem]) (jlast_calls j g rv es S _ ((HP.out.step (grown_drew wc none)).step hg17).live.jour) ?_
          rintro _ W19 ⟨rfl, hg19⟩
          have hS19 : Blk W19 g11 (rjcells D (.slice adr N capr) S) 52 := hS17.kept hg19 (by simp)
          refine ⟨_, rfl, ?_⟩
          refine hK.out _ _ hS19 (fun _ => ?_)
          clear hK K
          simp only [Act.put, List.setIfInBounds_toArray, List.set_cons_zero, List.set_cons_succ]
          refine anyH_take 25 (some 188) rfl rfl (by kernel_rfl) (by kernel_rfl) (by kernel_rfl) (fun _ _ _ h => h) (yieldsIf_neq rfl rfl 5 S.last S.last rfl rfl Try.uid Try.uu8 Try.su8 Try.gid HLL.out HLL.out) hS19 ?_
          simp only [Act.put, List.setIfInBounds_toArray, List.set_cons_zero, List.set_cons_succ]
          refine anyH_take 26 (some 189) (v := ?_) rfl rfl (by kernel_rfl) (by kernel_rfl) (by kernel_rfl) (fun _ _ _ h => h) (Or.inl ⟨by rfl, ?_⟩) hS19 ?_
          rotate_left
          · intro w _
            go_simp
            try (with_reducible rfl)
          simp only [Act.put, List.setIfInBounds_toArray, List.set_cons_zero, List.set_cons_succ]
          refine wpAnyH_done (by kernel_rfl) ?_ _
          simp only [decide_true, Bool.not_true]
          have HP19 := Lib.hid (((HP.out.step (grown_drew wc none)).step hg17).step hg19)
          have hG19 : wc.grownBy W19 none := grown_trans (grown_trans (grown_drew wc none) hg17) hg19
          have c4 : W19.cell? ⟨g11, 4, none⟩ = some (.slice adr N capr) := by rw [hS19.cell]; exact rjcells_rv _ _ _
          clear hS0 hS17 hS19 hg17 hg19 hbu hru
          go_wp2_with fail
          go_loopw [193] (fun s193 wr => ∃ i : Nat, i ≤ N ∧ s193 = .int .i64 (i : Int) ∧ W19.grownBy wr none) (fun i _ => N - (intOf i).toNat)
          case atStart => exact ⟨0, by omega, by rfl, grown_refl W19 _⟩
          case round =>
            obtain ⟨i, hi, rfl, hG⟩ := hrel
            have HPi := Lib.hid (HP19.out.step hG)
            have HG := Lib.hid (And.intro hG (And.intro hG19 c4))
            clear hG c4
            by_cases hiN : i < N
            · have hii : (i : Int) < N := by omega
              obtain ⟨aw, cw, hvw, hcw⟩ := StrsAt.of_row HPi.out.row
              obtain ⟨bw, ow, haw, hcellw⟩ := hcw.resolve_left (fun e => by have := HNN.out; rw [e] at this; simp at this; omega)
              subst haw
              obtain rfl : adr = some ⟨bw, ow, none⟩ := by cases hvw; rfl
              have hcw := hcellw i (by rw [← HNN.out]; exact hiN)
              obtain ⟨r, hr⟩ : ∃ r, r = S.records.getD i [] := ⟨_, rfl⟩
              rw [← hr] at hcw
              have hrl : r.length < 16777216 := HP.out.recs r (by rw [hr, List.getD_eq_getElem?_getD, List.getElem?_eq_getElem (by rw [← HNN.out]; exact hiN)]; exact List.getElem_mem _)
              have HR2 := Lib.hid hr
              have HCW := Lib.hid hcw
              clear hvw hcellw hr hcw
              go_wp2_with fail
              refine (jat_calls j g rv es S i wr HPi.out.live.jour (by rw [← HNN.out]; exact hiN) (by rw [← HR2.out]; omega)).mono ?_
              rintro _ W20 ⟨u, rfl, hru, hg20⟩
              rw [← HR2.out] at hru
              have hbu := hru.bytes
              obtain ⟨adu, nu, capu, hu⟩ := hru.shape
              subst hu
              have c4 : wr.cell? ⟨g11, 4, none⟩ = some (.slice (some ⟨bw, ow, none⟩) N capr) := by rw [HPi.out.m.cell]; exact rjcells_rv _ _ _
              have hS0 : W20.drew.cell? ⟨g11, 4, none⟩ = some (.slice (some ⟨bw, ow, none⟩) N capr) ∧ W20.drew.cell? ⟨bw, ow + i, none⟩ = some (Scv.vs r) ∧ BytesAt W20.drew (.slice adu nu capu) r :=
                ⟨cell_grown hg20 _ _ c4, cell_grown hg20 _ _ HCW.out, hbu.grown0 (grown_drew W20 none)⟩
              have HG20 := Lib.hid (grown_trans HG.out.1 hg20)
              clear hru hbu hg20 c4
              have hnN : ¬ N ≤ i := by omega
              go_wp2_with fail
              refine wp_region_held_drew (S := fun w' : World => w'.cell? ⟨g11, 4, none⟩ = some (.slice (some ⟨bw, ow, none⟩) N capr) ∧ w'.cell? ⟨bw, ow + i, none⟩ = some (Scv.vs r) ∧ BytesAt w' (.slice adu nu capu) r) (by kernel_rfl) hS0 (fun _ => ?_)
              refine anyH_take 0 (some 202) (v := ?_) rfl rfl (by kernel_rfl) (by kernel_rfl) (by kernel_rfl) (fun _ _ _ h => h) (Or.inl ⟨by rfl, ?_⟩) hS0 ?_
              rotate_left
              · intro w _
                go_simp
                try (with_reducible rfl)
              simp only [Act.put, List.setIfInBounds_toArray, List.set_cons_zero, List.set_cons_succ]
              refine anyH_take 1 (some 203) (v := ?_) rfl rfl (by kernel_rfl) (by kernel_rfl) (by kernel_rfl) (fun _ _ _ h => h) (Or.inl ⟨by rfl, ?_⟩) hS0 ?_
              rotate_left
              · intro w _
                go_simp
                try (with_reducible rfl)
              simp only [Act.put, List.setIfInBounds_toArray, List.set_cons_zero, List.set_cons_succ]
              refine anyH_take 2 (some 204) (v := ?_) rfl rfl (by kernel_rfl) (by kernel_rfl) (by kernel_rfl) (fun _ _ _ h => h) (Or.inl ⟨by rfl, ?_⟩) hS0 ?_
              rotate_left
              · intro w _
                go_simp
                try (with_reducible rfl)
              simp only [Act.put, List.setIfInBounds_toArray, List.set_cons_zero, List.set_cons_succ]
              refine anyH_take 3 (some 205) (v := ?_) rfl rfl (by kernel_rfl) (by kernel_rfl) (by kernel_rfl) (fun _ _ _ h => h) (Or.inl ⟨by rfl, ?_⟩) hS0 ?_
              rotate_left
              · intro w _
                go_simp
                try (with_reducible rfl)
              simp only [Act.put, List.setIfInBounds_toArray, List.set_cons_zero, List.set_cons_succ]
              refine anyH_take 4 (some 206) rfl rfl (by kernel_rfl) (by kernel_rfl) (by kernel_rfl) (fun _ _ _ h => h) (yieldsIf_bstr rfl rfl (.slice adu nu capu) r 5 rfl (fun _ h => h.2.2) Try.ubytes Try.uu8 Try.ustr) hS0 ?_
              simp only [Act.put, List.setIfInBounds_toArray, List.set_cons_zero, List.set_cons_succ]
              refine anyH_take 5 (some 207) (v := ?_) rfl rfl (by kernel_rfl) (by kernel_rfl) (by kernel_rfl) (fun _ _ _ h => h) (Or.inl ⟨by rfl, ?_⟩) hS0 ?_
              rotate_left
              · intro w _
                go_simp
                try (with_reducible rfl)
              simp only [Act.put, List.setIfInBounds_toArray, List.set_cons_zero, List.set_cons_succ]
              refine anyH_take 6 (some 208) rfl rfl (by kernel_rfl) (by kernel_rfl) (by kernel_rfl) (fun _ _ _ h => h) (yieldsIf_load1 rfl rfl ⟨g11, 4, none⟩ (.slice (some ⟨bw, ow, none⟩) N capr) _ rfl (fun _ h => h.1) Try.ustrs rfl) hS0 ?_
              simp only [Act.put, List.setIfInBounds_toArray, List.set_cons_zero, List.set_cons_succ]
              refine anyH_take 7 (some 209) (v := ?_) rfl rfl (by kernel_rfl) (by kernel_rfl) (by kernel_rfl) (fun _ _ _ h => h) (Or.inl ⟨by rfl, ?_⟩) hS0 ?_
              rotate_left
              · intro w _
                go_simp
                try (with_reducible rfl)
              simp only [Act.put, List.setIfInBounds_toArray, List.set_cons_zero, List.set_cons_succ]
              refine anyH_take 8 (some 210) (v := ?_) rfl rfl (by kernel_rfl) (by kernel_rfl) (by kernel_rfl) (fun _ _ _ h => h) (Or.inl ⟨by rfl, ?_⟩) hS0 ?_
              rotate_left
              · intro w _
                go_simp
                try (with_reducible rfl)
              simp only [Act.put, List.setIfInBounds_toArray, List.set_cons_zero, List.set_cons_succ]
              refine anyH_take 9 (some 211) rfl rfl (by kernel_rfl) (by kernel_rfl) (by kernel_rfl) (fun _ _ _ h => h) (yieldsIf_load1 rfl rfl ⟨bw, ow + i, none⟩ (Scv.vs r) _ rfl (fun _ h => h.2.1) Try.nstr rfl) hS0 ?_
              simp only [Act.put, List.setIfInBounds_toArray, List.set_cons_zero, List.set_cons_succ]
              refine anyH_take 10 (some 212) rfl rfl (by kernel_rfl) (by kernel_rfl) (by kernel_rfl) (fun _ _ _ h => h) (yieldsIf_sneq rfl rfl r r rfl rfl) hS0 ?_
              simp only [Act.put, List.setIfInBounds_toArray, List.set_cons_zero, List.set_cons_succ]
              refine anyH_take 11 (some 213) (v := ?_) rfl rfl (by kernel_rfl) (by kernel_rfl) (by kernel_rfl) (fun _ _ _ h => h) (Or.inl ⟨by rfl, ?_⟩) hS0 ?_
              rotate_left
              · intro w _
                go_simp
                try (with_reducible rfl)
              simp only [Act.put, List.setIfInBounds_toArray, List.set_cons_zero, List.set_cons_succ]
              refine wpAnyH_done (by kernel_rfl) ?_ _
              go_wp2_with fail
              go_roundw
              case rel => exact ⟨i + 1, by omega, by go_num, grown_trans HG20.out (grown_drew W20 none)⟩
              case measure => simp [intOf]; omega
            · obtain rfl : i = N := by omega
              go_wp2_with fail
              go_roundw
              case rel => exact ⟨k + 1, v, D, j, rv, es, S, _, by omega, by go_num, rfl, HPi.out⟩
              case measure => simp [intOf]; omega
    · obtain rfl : k = n := by omega
      have hG := hP.live.lone.grown
      have HP := Lib.hid hP
      clear hP
      go_wp2_with fail
      refine (jlen_calls j g rv es S wr HP.out.live.jour).mono ?_
      rintro _ _ ⟨rfl, rfl⟩
      go_wp2_with fail
      refine (jat_no j g rv es S _ wr HP.out.live.jour (.inr (Int.le_refl _))).mono ?_
      rintro _ _ ⟨rfl, rfl⟩
      go_wp2_with fail
      go_ret
      exact ⟨rfl, hG⟩
end Go.Proofs.Yteicjpjniaohhaa
