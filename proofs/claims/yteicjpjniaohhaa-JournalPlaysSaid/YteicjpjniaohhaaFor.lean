/- The sum of parts for a purpose: For. -/
import Derived.Test.YteicjpjniaohhaaSlices
set_option linter.unusedVariables false
set_option linter.unusedSimpArgs false
namespace Scv
open Go Go.RowKit
/-- a value that reads as a text, its array being no array of the block g -/
def El (w : World) (g : Option Nat) (e : Value) (l : List UInt8) : Prop := BytesAt w e l ∧ (l ≠ [] → e.ownBlock ≠ g)
def Els (w : World) (g : Option Nat) : List Value → List (List UInt8) → Prop
  | [], [] => True
  | e :: es, l :: ls => El w g e l ∧ Els w g es ls
  | _, _ => False
theorem Els.imp {w W : World} {g g' : Option Nat} (h : ∀ e l, El w g e l → El W g' e l) : ∀ {es : List Value} {ls : List (List UInt8)}, Els w g es ls → Els W g' es ls
  | [], [], _ => trivial
  | e :: es, l :: ls, hh => ⟨h e l hh.1, Els.imp h hh.2⟩
  | [], _ :: _, hh => hh.elim
  | _ :: _, [], hh => hh.elim
theorem Els.append {w : World} {g : Option Nat} : ∀ {es : List Value} {ls : List (List UInt8)} {fs : List Value} {ms : List (List UInt8)}, Els w g es ls → Els w g fs ms → Els w g (es ++ fs) (ls ++ ms)
  | [], [], _, _, _, k => k
  | _ :: _, _ :: _, _, _, hh, k => ⟨hh.1, Els.append hh.2 k⟩
  | [], _ :: _, _, _, hh, _ => hh.elim
  | _ :: _, [], _, _, hh, _ => hh.elim
theorem Els.length {w : World} {g : Option Nat} : ∀ {es : List Value} {ls : List (List UInt8)}, Els w g es ls → es.length = ls.length
  | [], [], _ => rfl
  | _ :: _, _ :: _, hh => by simp [Els.length hh.2]
  | [], _ :: _, hh => hh.elim
  | _ :: _, [], hh => hh.elim
theorem Els.get {w : World} {g : Option Nat} : ∀ {es : List Value} {ls : List (List UInt8)}, Els w g es ls → ∀ i, i < ls.length → El w g (es.getD i undef) (ls.getD i [])
  | [], [], _, i, hi => by simp at hi
  | _ :: _, _ :: _, hh, 0, _ => hh.1
  | _ :: es, _ :: ls, hh, i + 1, hi => by
    have := Els.get hh.2 i (by simpa using hi)
    simpa using this
  | [], _ :: _, hh, _, _ => hh.elim
  | _ :: _, [], hh, _, _ => hh.elim
/-- where a text that is not empty lies -/
theorem BytesAt.block {w : World} {e : Value} {l : List UInt8} (h : BytesAt w e l) (hl : l ≠ []) : ∃ b, e.ownBlock = some b ∧ b < w.heap.size := by
  obtain ⟨ad, cap, rfl, rfl | ⟨b, o, rfl, hc⟩⟩ := h
  · exact absurd rfl hl
  · exact ⟨b, rfl, by have := hc 0 (List.length_pos_iff.2 hl); exact block_lt_of_cell this⟩
theorem BytesAt.kept {w W : World} {e : Value} {l : List UInt8} (h : BytesAt w e l) (hb : l ≠ [] → ∀ b, e.ownBlock = some b → W.heap[b]? = w.heap[b]?) : BytesAt W e l := by
  obtain ⟨ad, cap, rfl, rfl | ⟨b, o, rfl, hc⟩⟩ := h
  · exact ⟨ad, cap, rfl, .inl rfl⟩
  · by_cases hl : l = []
    · exact ⟨_, cap, rfl, .inl hl⟩
    · refine ⟨_, cap, rfl, .inr ⟨b, o, rfl, fun i hi => ?_⟩⟩
      rw [World.cell?_of_block (hb hl b rfl)]; exact hc i hi
theorem BytesAt.grown {w W : World} {e : Value} {l : List UInt8} {r : Option Nat} (h : BytesAt w e l) (hg : w.grownBy W r) (hr : l ≠ [] → e.ownBlock ≠ r) : BytesAt W e l := by
  refine h.kept fun hl b hb => ?_
  obtain ⟨b', hb', hlt⟩ := h.block hl
  rw [hb] at hb'; cases hb'
  exact hg.block b hlt (by rw [← hb]; exact hr hl)
theorem BytesAt.grown0 {w W : World} {e : Value} {l : List UInt8} (h : BytesAt w e l) (hg : w.grownBy W none) : BytesAt W e l :=
  h.grown hg fun hl hb => by obtain ⟨b, hb', _⟩ := h.block hl; rw [hb] at hb'; cases hb'
theorem Blk.bytes {w : World} {g : Nat} {l : List UInt8} {t : TypeId} (h : Blk w g (u8s l) t) (cap : Nat) : BytesAt w (.slice (some ⟨g, 0, none⟩) l.length cap) l :=
  ⟨_, cap, rfl, .inr ⟨g, 0, rfl, fun i hi => by rw [Nat.zero_add]; exact h.byte i hi⟩⟩
theorem El.step {w W : World} {g g' : Option Nat} (hg : w.grownBy W g) (hn : ∀ b, g' = some b → g = some b ∨ w.heap.size ≤ b) (e : Value) (l : List UInt8) (h : El w g e l) : El W g' e l := by
  refine ⟨h.1.grown hg h.2, fun hl hb => ?_⟩
  obtain ⟨b, hb', hlt⟩ := h.1.block hl
  rw [hb'] at hb
  rcases hn b hb.symm with h' | h'
  · exact h.2 hl (by rw [hb', h'])
  · omega
theorem ListsAt.of {w : World} {base : Nat} {e : TypeId} {v : Value} {es : List Value} {ls : List (List UInt8)} {g : Option Nat} (hr : Row w base e v es) (he : Els w g es ls) : ListsAt w v es ls := by
  have hlen := he.length
  have hb := fun i hi => (he.get i hi).1
  rcases hr with ⟨rfl, rfl⟩ | ⟨g, cap, cur, fr, rfl, _, hg, _, _, _, _, htake⟩
  · exact ⟨none, 0, by rw [← hlen]; rfl, .inl (List.eq_nil_of_length_eq_zero (by rw [← hlen]; rfl)), hb⟩
  · refine ⟨_, cap, by rw [hlen], .inr ⟨g, 0, rfl, fun i hi => ?_⟩, hb⟩
    rw [Nat.zero_add]
    have e1 : cur[i]? = es[i]? := by
      rw [← htake, List.getElem?_take, if_pos (by omega)]; simp
    simp [World.cell?, hg, e1, List.getD_eq_getElem?_getD, List.getElem?_eq_getElem (show i < es.length by omega)]
/-- what For sums behind k parts -/
def forList (purpose : List UInt8) (parts : List (List UInt8)) : List (List UInt8) := purpose :: [0] :: parts.flatMap fun p => [be32 p.length, p]
theorem forList_flatten (purpose : List UInt8) (parts : List (List UInt8)) : (forList purpose parts).flatten = forEnc purpose parts := by
  unfold forList forEnc
  simp only [List.flatten_cons, List.singleton_append]
  congr 2
  induction parts with
  | nil => rfl
  | cons p ps ih => simp [sized, ih]
end Scv
namespace Go.Proofs.Yteicjpjniaohhaa
open Go.RowKit Go.Shelf Scv
theorem Try.ubytes : Try.prog.underlying 30 = some (.slice 5) := by kernel_rfl
theorem Try.ulists : Try.prog.underlying 22 = some (.slice 30) := by kernel_rfl
theorem Try.uu8 : Try.prog.underlying 5 = some (.int .u8) := by kernel_rfl
theorem Try.ustr : Try.prog.underlying 9 = some .string := by kernel_rfl
theorem Try.ibytes : (Try.prog.info? 30).map (fun i => (i.size, decide (i.bytes ≤ 128), i.zero)) = some (1, true, some (.slice none 0 0)) := by kernel_rfl
theorem Try.zbytes : (Try.prog.info? 30).map (fun i => (i.size, i.zero.isSome)) = some (1, true) := by kernel_rfl
theorem Try.iu8 : (Try.prog.info? 5).map (fun i => (i.size, decide (i.bytes ≤ 128), i.zero)) = some (1, true, some (.int .u8 0)) := by kernel_rfl
theorem Try.zu8 : (Try.prog.info? 5).map (fun i => (i.size, i.zero.isSome)) = some (1, true) := by kernel_rfl
set_option maxRecDepth 100000 in
set_option maxHeartbeats 4000000 in
theorem for_calls (purpose : List UInt8) (v : Value) (vs : List Value) (parts : List (List UInt8)) (w : World) (hread : ListsAt w v vs parts) (hp : purpose.length < 1048576) (hP : parts.length < 1048576) (hM : (parts.flatMap sized).length < 1073741824) :
    Calls Try.prog 32 #[.string ⟨purpose.toArray⟩, v] w fun e w' => e = .returned (.agg (u8s (forSum purpose parts))) ∧ w.grownBy w' none := by
  obtain ⟨ad, cap, hv, hcs, hbs⟩ := id hread
  subst hv
  go_enter Try.func32, Try.ntmps32
  go_wp2_with (with_reducible apply law_alloc _ Try.zid)
  intro W1 hi1 hg1 hz1
  obtain ⟨gr, hgr⟩ : ∃ g, g = w.heap.size := ⟨_, rfl⟩
  rw [← hgr] at hi1 hz1
  rw [← hgr]
  replace hi1 : Blk W1 gr (u8s (List.replicate 32 0)) 29 := hi1
  have HGR := Lib.hid hgr
  clear hgr
  go_wp2_with ((with_reducible refine law_sbytes purpose _ ?_ Try.ustr Try.ubytes Try.uu8 (by omega) ?_); rfl)
  intro v1 W2 hr2 hg2 ho2 hb2
  have o1 := hb2.one
  go_wp2_with ((with_reducible refine law_bslice 5 [vb 0] Try.ubytes Try.zu8 ?_ ?_ ?_ ?_ ?_ ?_); omega; rfl; omega; (intro v hv; rw [List.mem_singleton.1 hv]; rfl); rfl)
  intro W3 hb3 hg3 hz3
  go_wp2_with ((with_reducible refine law_bslice 30 [v1, .slice (some ⟨W2.heap.size, 0, none⟩) 1 1] Try.ulists Try.zbytes ?_ ?_ ?_ ?_ ?_ ?_); omega; rfl; omega; (intro v hv; rcases List.mem_cons.1 hv with rfl | hv; exact o1; rw [List.mem_singleton.1 hv]; rfl); rfl)
  intro W4 hb4 hg4 hz4
  have G4 : w.grownBy W4 none := grown_trans (grown_trans (grown_trans hg1 hg2) hg3) hg4
  have hi4 := ((hi1.kept hg2 (by simp)).kept hg3 (by simp)).kept hg4 (by simp)
  obtain ⟨g4, hg4'⟩ : ∃ g, g = W3.heap.size := ⟨_, rfl⟩
  rw [← hg4'] at hb4
  rw [← hg4']
  have hrow : Row W4 (gr + 1) 30 (.slice (some ⟨g4, 0, none⟩) 2 2) [v1, .slice (some ⟨W2.heap.size, 0, none⟩) 1 1] := by
    refine .inr ⟨g4, 2, _, (0, 0), rfl, ?_, hb4, .inl ⟨rfl, rfl⟩, by simp, by simp [maxLen], by simp, by simp⟩
    have := hg2.size; have := hg3.size; omega
  have hels : Els W4 (some g4) [v1, .slice (some ⟨W2.heap.size, 0, none⟩) 1 1] (forList purpose (parts.take 0)) := by
    have hz2 := hg2.size
    have hz12 : W1.heap.size < W2.heap.size := (hr2.lt W1.heap.size ho2).2
    have hb3' : Blk W3 W2.heap.size (u8s [0]) 5 := hb3
    refine ⟨⟨(hb2.grown0 hg3).grown0 hg4, fun _ h => ?_⟩, ⟨BytesAt.grown0 (hb3'.bytes 1) hg4, fun _ h => ?_⟩, trivial⟩
    · rw [ho2] at h; cases h; omega
    · have h' : W2.heap.size = g4 := Option.some.inj h
      omega
  have hb0 : gr + 1 ≤ W4.heap.size := by have := hi4.lt; omega
  obtain ⟨vv, hvv⟩ : ∃ vv, vv = Value.slice (some ⟨g4, 0, none⟩) 2 2 := ⟨_, rfl⟩
  obtain ⟨es, hes⟩ : ∃ es, es = [v1, .slice (some ⟨W2.heap.size, 0, none⟩) 1 1] := ⟨_, rfl⟩
  have hels' : Els W4 vv.ownBlock es (forList purpose (parts.take 0)) := by rw [hvv, hes]; exact hels
  rw [← hvv, ← hes] at hrow
  rw [← hvv]
  have hnot : vv.ownBlock ≠ none := by rw [hvv]; simp [Value.ownBlock]
  clear hels hvv hes hb2 hb3 hb4 hr2 hg1 hg2 hg3 hg4 hz1 hz3 hz4 hi1 o1 ho2 hg4'
  go_wp2_with fail
  go_loopw [5, 15] (fun a i wr => ∃ (k : Nat) (es : List Value), k ≤ parts.length ∧ i = .int .i64 k ∧ Row wr (gr + 1) 30 a es ∧ Els wr a.ownBlock es (forList purpose (parts.take k)) ∧ Blk wr gr (u8s (List.replicate 32 0)) 29 ∧ w.grownBy wr none) (fun _ i _ => parts.length - (intOf i).toNat)
  case atStart => exact ⟨0, es, by omega, rfl, hrow, hels', hi4, G4⟩
  case round =>
    obtain ⟨k, es, hk, rfl, hrow, hels, hi, hG⟩ := hrel
    by_cases hkl : k < parts.length
    · obtain ⟨b, o, rfl, hcells⟩ := hcs.resolve_left (fun e => by rw [e] at hkl; exact absurd hkl (by simp))
      have cv := cell_grown hG _ _ (hcells k hkl)
      have hbk := (hbs k hkl)
      obtain ⟨p, hpp⟩ : ∃ p, p = parts.getD k [] := ⟨_, rfl⟩
      obtain ⟨vk, hvk⟩ : ∃ vk, vk = vs.getD k undef := ⟨_, rfl⟩
      rw [← hpp, ← hvk] at hbk
      rw [← hvk] at cv
      have hsucc : forList purpose (parts.take (k + 1)) = forList purpose (parts.take k) ++ [be32 p.length, p] := by
        unfold forList
        rw [List.take_succ_eq_append_getElem hkl, List.flatMap_append, hpp]; simp [List.getD_eq_getElem?_getD, List.getElem?_eq_getElem hkl]
      have hpl : p.length < 1073741824 := by
        have h1 : (sized p).length ≤ (parts.flatMap sized).length := by
          have hmem : p ∈ parts := by rw [hpp, List.getD_eq_getElem?_getD, List.getElem?_eq_getElem hkl]; exact List.getElem_mem hkl
          exact (List.sublist_flatten_of_mem (List.mem_map.2 ⟨p, hmem, rfl⟩)).length_le
        have h2 : (sized p).length = p.length + 4 := by simp [sized, be32]
        omega
      have HS := Lib.hid (And.intro hsucc (And.intro hpp hvk))
      have hbw := (hbk.grown0 hG)
      obtain ⟨n, hn⟩ : ∃ n, n = p.length := ⟨_, rfl⟩
      have hon := hbw.one
      obtain ⟨ad2, cap2, hv2, _⟩ := id hbk
      rw [← hn] at hv2 hpl
      have HN := Lib.hid hn
      clear hsucc hpp hvk hn hcs hbs
      subst hv2
      have hkl' : (k : Int) < parts.length := by omega
      have hro := hrow.one
      go_wp2_with (first | ((with_reducible refine law_bslice 5 [.int .u8 ((n : Int) / 16777216), .int .u8 ((n : Int) / 65536 % 256), .int .u8 ((n : Int) / 256 % 256), .int .u8 ((n : Int) % 256)] Try.ubytes Try.zu8 ?_ ?_ ?_ ?_ ?_ ?_); omega; rfl; omega; (intro v hv; simp only [List.mem_cons, List.not_mem_nil, or_false] at hv; rcases hv with rfl | rfl | rfl | rfl <;> rfl); rfl))
      intro W5 hb5 hg5 hz5
      go_wp2_with ((with_reducible refine law_bslice 30 [.slice (some ⟨wr.heap.size, 0, none⟩) 4 4, .slice ad2 n cap2] Try.ulists Try.zbytes ?_ ?_ ?_ ?_ ?_ ?_); omega; rfl; omega; (intro v hv; simp only [List.mem_cons, List.not_mem_nil, or_false] at hv; rcases hv with rfl | rfl <;> rfl); rfl)
      intro W6 hb6 hg6 hz6
      have hg46 := grown_trans hg5 hg6
      have hz0 : gr + 1 ≤ W6.heap.size := by have := hi.lt; have := hg46.size; omega
      have hrow6 := hrow.grown hg46 (.inl rfl)
      have hlen6 : es.length = 2 + 2 * k := by
        have h1 := hels.length
        have h2 : (forList purpose (parts.take k)).length = 2 + 2 * k := by
          unfold forList
          have h3 : ∀ l : List (List UInt8), (l.flatMap fun p => [be32 p.length, p]).length = 2 * l.length := by
            intro l; induction l with
            | nil => rfl
            | cons x xs ih => simp only [List.flatMap_cons, List.length_append, ih, List.length_cons, List.length_nil]; omega
          simp only [List.length_cons, h3, List.length_take]; omega
        omega
      have hsrc : SrcAt W6 (.slice (some ⟨W5.heap.size, 0, none⟩) 2 2) [.slice (some ⟨wr.heap.size, 0, none⟩) 4 4, .slice ad2 n cap2] :=
        ⟨_, 2, rfl, fun j u hu => ⟨_, rfl, by rw [add_at, Nat.zero_add, hb6.cell]; simpa using hu⟩⟩
      obtain ⟨news, hnews⟩ : ∃ news, news = [Value.slice (some ⟨wr.heap.size, 0, none⟩) 4 4, .slice ad2 n cap2] := ⟨_, rfl⟩
      have hn1 : ∀ u ∈ news, u.oneCell' = true := by
        intro v hv; rw [hnews] at hv; simp only [List.mem_cons, List.not_mem_nil, or_false] at hv; rcases hv with rfl | rfl <;> rfl
      have hnl : news.length = 2 := by rw [hnews]; rfl
      rw [← hnews] at hsrc
      have hnb : n = p.length := HN.out
      have hB5 : Blk W6 wr.heap.size (u8s (be32 p.length)) 5 := by
        have := hb5.kept hg6 (by simp)
        have e : u8s (be32 p.length) = [Value.int .u8 ((n : Int) / 16777216), .int .u8 ((n : Int) / 65536 % 256), .int .u8 ((n : Int) / 256 % 256), .int .u8 ((n : Int) % 256)].toArray := by
          have hb : ∀ m : Nat, (vb (b8 m)) = .int .u8 ((m : Int) % 256) := fun m => by
            unfold vb b8
            rw [UInt8.toNat_ofNat']; simp only [Int.natCast_emod]; rfl
          rw [← hnb]
          simp only [u8s, be32, List.map_cons, List.map_nil, hb, Int.natCast_ediv]
          have : ((n : Int) / ((16777216 : Nat) : Int)) % 256 = (n : Int) / 16777216 := by omega
          rw [this]; rfl
        rw [e]; exact this
      have hne : Els W6 u5.ownBlock news [be32 p.length, p] := by
        rw [hnews]
        refine ⟨⟨hB5.bytes 4, fun _ h => ?_⟩, ⟨hbw.grown0 hg46, fun hl h => ?_⟩, trivial⟩
        · have := (hrow.lt _ h.symm).2; simp at this
        · obtain ⟨bb, hbb, hlt⟩ := hbk.block hl
          have := (hrow.lt bb (by rw [← h]; exact hbb)).1
          have := HGR.out; omega
      go_wp2_with ((with_reducible refine law_append (gr + 1) 30 (.slice none 0 0) Try.ulists Try.ibytes rfl u5 _ es news ?_ ?_ hrow6 hsrc hn1 ?_ hz0 ?_); rfl; rfl; (rw [hlen6, hnl]; omega))
      intro v' W7 hrow7 hg7 hn7
      have hg57 := grown_trans (grown_weak u5.ownBlock hg46) hg7
      have hz6 := hg46.size
      have hels7 : Els W7 v'.ownBlock (es ++ news) (forList purpose (parts.take (k + 1))) := by
        rw [HS.out.1]
        exact (hels.imp (El.step hg57 (fun b hb => (hn7 b hb).imp id (by omega)))).append (hne.imp (El.step hg7 hn7))
      have hi7 := hi.kept hg57 (fun h => by have := (hrow.lt gr h.symm).1; omega)
      have hG7 : w.grownBy W7 none := grown_new (grown_trans hG hg46) hg7 (fun g hg => by have := (hrow.lt g hg).1; have := HGR.out; omega)
      clear hrow hels hi hG hb5 hg5 hz5 hb6 hg6 hz6 hg46 hrow6 hsrc hB5 hne hg57 hg7 hn7 cv
      go_wp2_with fail
      go_roundw
      case rel => exact ⟨k + 1, es ++ news, by omega, by go_num, hrow7, hels7, hi7, hG7⟩
      case measure => simp [intOf]; omega
    · obtain rfl : k = parts.length := by omega
      rw [List.take_length] at hels
      have hla := ListsAt.of hrow hels
      have hfl := forList_flatten purpose parts
      have hll := hels.length
      have hpl2 : (forList purpose parts).length = 2 + 2 * parts.length := by
        unfold forList
        have h3 : ∀ l : List (List UInt8), (l.flatMap fun p => [be32 p.length, p]).length = 2 * l.length := by
          intro l; induction l with
          | nil => rfl
          | cons x xs ih => simp only [List.flatMap_cons, List.length_append, ih, List.length_cons, List.length_nil]; omega
        simp only [List.length_cons, h3]; omega
      have hfe : (forList purpose parts).flatten.length < 1099511627776 := by
        rw [hfl, forEnc]; simp only [List.length_append, List.length_cons]; omega
      go_wp2_with fail
      refine (of_calls _ _ _ _ hla (by omega) hfe).mono ?_
      rintro e W8 ⟨rfl, hg8⟩
      have hi8 := hi.kept hg8 (by simp)
      have hG8 := grown_trans hG hg8
      rw [hfl]
      have hfs : sha (forEnc purpose parts) = forSum purpose parts := rfl
      rw [hfs]
      have hshl : (forSum purpose parts).length = 32 := sha_length _
      clear hla hfl hll hpl2 hfe hrow hels hi hG hg8
      go_wp2_with ((with_reducible refine law_store gr 0 ((forSum purpose parts).map vb) _ _ ?_ ?_ hi8 ?_ ?_ ?_ ?_); rfl; rfl; (rw [u8s_size, List.length_map, hshl, List.length_replicate]; omega); (intro v hv; obtain ⟨b, _, rfl⟩ := List.mem_map.1 hv; rfl); (rw [Try.sid, List.length_map, hshl]))
      intro W9 hi9 hg9 hz9
      rw [lay_whole _ _ (by rw [u8s_size, List.length_map, hshl, List.length_replicate])] at hi9
      go_wp2_with fail
      refine bodyPost_ret (results_cell_row rfl _ _ gr 29 _ _ _ rfl hi9 Try.uid rfl (by rw [Try.sid]; simp [hshl])) rfl ?_
      exact ⟨rfl, grown_new hG8 hg9 (fun g hg => by cases hg; have := HGR.out; omega)⟩
end Go.Proofs.Yteicjpjniaohhaa
