/- Contracts: (*Shell).service, does at the word 'service', Line's easy ends. -/
import Derived.Test.YtebdaijenenepaaGreatDoorDoes
import Derived.Test.YtebdaijenenepaaGreatDoorOffnew
set_option maxRecDepth 100000
namespace Go.Proofs
open Go Go.RowKit

theorem WordsAt.below {w w' : World} {A o : Nat} {ws : List ByteArray} (h : WordsAt w A o ws) {B : Nat} (hb : Below B w w') (hA : A < B) : WordsAt w' A o ws :=
  fun j x hj => (hb.cell (p := ⟨A, o + j, none⟩) hA).trans (h j x hj)

def Cfg.val (c : Cfg) : Nat → Nat
  | 0 => c.clients
  | 1 => c.window
  | 2 => c.sessions
  | 3 => c.flight
  | 4 => c.bytes
  | 5 => c.ring
  | 6 => c.chunk
  | _ => c.batch
theorem Cfg.cells_val (c : Cfg) : c.cells = #[.int .i64 (c.val 0), .int .i64 (c.val 1), .int .i64 (c.val 2), .int .i64 (c.val 3), .int .i64 (c.val 4), .int .i64 (c.val 5), .int .i64 (c.val 6), .int .i64 (c.val 7)] := rfl

theorem Serv0.same {c : Cfg} {w w' : World} {sv tb tg ab ag qb qg cg fm : Nat} (h : Serv0 c w sv tb tg ab ag qb qg cg fm) (hs : ∀ k ∈ [sv, tb, tg, ab, ag, qb, qg, cg, fm], w'.heap[k]? = w.heap[k]?) :
    Serv0 c w' sv tb tg ab ag qb qg cg fm :=
  ⟨(hs _ (by simp)).trans h.s, (hs _ (by simp)).trans h.t, (hs _ (by simp)).trans h.tp, (hs _ (by simp)).trans h.a, (hs _ (by simp)).trans h.ap, (hs _ (by simp)).trans h.q, (hs _ (by simp)).trans h.qp, (hs _ (by simp)).trans h.cl, (hs _ (by simp)).trans h.fl, h.dis⟩

set_option maxHeartbeats 4000000 in
theorem service_ok (sp A cp : Nat) (svc : Value) (ws : List ByteArray) (c : Cfg) (hc : c.Ok) (W : World) (hT : Lib.Utf8Tabs 7 8 W) (h9 : 9 ≤ W.heap.size)
    (hA : A < W.heap.size) (hsp : W.heap[sp]? = some (.cells #[svc] 61 (0, 0))) (hl : ws.length = 8) (hws : WordsAt W A 1 ws)
    (hn : ∀ (j : Nat) x, ws[j]? = some x → numI x.data.toList = some (c.val j : Int)) :
    Calls Tryz.prog 45 #[.pointer (some ⟨sp, 0, none⟩), .slice (some ⟨A, 1, none⟩) 8 cp] W fun e w' => e = .returned (.string (⟨#[111, 107, 10]⟩ : ByteArray)) ∧
      ∃ sv tb tg ab ag qb qg cg fm, Serv0 c w' sv tb tg ab ag qb qg cg fm ∧ (∀ b ∈ [sv, tb, tg, ab, ag, qb, qg, cg, fm], W.heap.size ≤ b) ∧ w'.heap[sp]? = some (.cells #[.pointer (some ⟨sv, 0, none⟩)] 61 (0, 0)) ∧ Kept (· = sp) W.heap.size W w' := by
  have HN := Lib.hid hn
  clear hn
  have hsl := lt_of_some hsp
  go_enter Tryz.func45, Tryz.ntmps45
  go_wp2_with (fail)
  refine (need_ok _ _).mono ?_
  rintro e w1 ⟨rfl, rfl⟩
  go_wp2_with (fail)
  go_loopw [6, 13] (fun _ i wr => ∃ (k : Nat) (cs : Array Value), k ≤ 8 ∧ i = .int .i64 k ∧ cs.size = 8 ∧ Blk wr W.heap.size cs 127 ∧ (∀ j, j < k → cs[j]? = some (.int .i64 (c.val j))) ∧ Below W.heap.size W wr) (fun _ i _ => 8 - (intOf i).toNat)
  case atStart => exact ⟨0, _, by omega, rfl, rfl, Blk.last _ _ _, fun j hj => absurd hj (by omega), (Below.refl _ _).alloc (Nat.le_refl _) _⟩
  case round =>
    obtain ⟨k, cs, hk, rfl, hcs, hB, hv, hbel⟩ := hrel
    by_cases hlt : k < 8
    · obtain ⟨x, hx⟩ : ∃ x, ws[k]? = some x := ⟨ws[k]'(by omega), List.getElem?_eq_getElem _⟩
      have hcx : wr.cell? ⟨A, 1 + k, none⟩ = some (.string x) := (hbel.cell (p := ⟨A, 1 + k, none⟩) hA).trans (hws k x hx)
      have hnx := Lib.hid (HN.out k x hx)
      clear hx
      go_wp2_with (fail)
      refine (number_any x wr (tabs_below hT hbel h9) (Nat.le_trans h9 hbel.size)).mono ?_
      rintro e w2 (⟨m, hm, rfl, hb2⟩ | ⟨hm, rfl, hb2⟩)
      · have hmv : m = (c.val k : Int) := by have := hnx.out; rw [hm] at this; exact Option.some.inj this
        subst hmv
        have hB2 := hB.below hb2 hB.lt
        obtain ⟨u, hu⟩ : ∃ u, cs[k]? = some u := ⟨cs[k]'(by omega), Array.getElem?_eq_getElem _⟩
        have hcell : w2.cell? ⟨W.heap.size, k, none⟩ = some u := (hB2.cell k).trans hu
        have hfr : w2.frozen? ⟨W.heap.size, k, none⟩ = false := hB2.free k
        have hbel2 := below_then hbel hb2
        clear hm hu
        go_wp2
        go_roundw
        case rel =>
          refine ⟨k + 1, cs.setIfInBounds k (.int .i64 (c.val k)), by omega, by go_num, by simp [hcs], hB2.set k _, fun j hj => ?_, hbel2.setCell (Nat.le_refl _) _⟩
          by_cases hjk : j = k
          · subst hjk
            exact Array.getElem?_setIfInBounds_self_of_lt (by omega)
          · rw [Array.getElem?_setIfInBounds_ne (fun e => hjk e.symm)]
            exact hv j (by omega)
        case measure => simp [intOf]; omega
      · have := hnx.out
        rw [hm] at this
        exact absurd this (by simp)
    · obtain rfl : k = 8 := by omega
      have hcc : ∀ j, j < 8 → wr.cell? ⟨W.heap.size, j, none⟩ = some (.int .i64 (c.val j)) := fun j hj => (hB.cell j).trans (hv j hj)
      have c0 := hcc 0 (by omega)
      have c1 := hcc 1 (by omega)
      have c2 := hcc 2 (by omega)
      have c3 := hcc 3 (by omega)
      have c4 := hcc 4 (by omega)
      have c5 := hcc 5 (by omega)
      have c6 := hcc 6 (by omega)
      have c7 := hcc 7 (by omega)
      clear hcc hv hk hlt
      go_wp2_with (fail)
      refine (offload_new c hc wr).mono ?_
      rintro e w2 ⟨sv, tb, tg, ab, ag, qb, qg, cg, fm, rfl, hs0, hlo, hb2⟩
      go_wp2_with (fail)
      refine (fine_ok _).mono ?_
      rintro e w3 ⟨rfl, rfl⟩
      have hsp2 : w2.heap[sp]? = some (.cells #[svc] 61 (0, 0)) := (hb2.block sp (Nat.lt_of_lt_of_le hsl hbel.size)).trans ((hbel.block sp hsl).trans hsp)
      have hcell : w2.cell? ⟨sp, 0, none⟩ = some svc := Lib.cell_of_heap hsp2 0
      have hfr : w2.frozen? ⟨sp, 0, none⟩ = false := Lib.frozen_of_heap hsp2 0
      go_wp2_with (fail)
      go_ret
      have hsz := hbel.size
      refine ⟨rfl, sv, tb, tg, ab, ag, qb, qg, cg, fm, hs0.same fun k hk => Below.heap_setCell _ _ _ _ (by have := hlo k hk; show k ≠ sp; omega), fun b hb => Nat.le_trans hsz (hlo b hb), ?_, ?_⟩
      · exact (show Blk w2 sp #[svc] 61 from hsp2).set 0 _
      · exact (Kept.of (below_then hbel hb2)).set 0 _

set_option maxHeartbeats 4000000 in
theorem does_service (sp A : Nat) (svc : Value) (ws : List ByteArray) (c : Cfg) (hc : c.Ok) (W : World) (hT : Lib.Utf8Tabs 7 8 W) (h9 : 9 ≤ W.heap.size)
    (hA : A < W.heap.size) (hsp : W.heap[sp]? = some (.cells #[svc] 61 (0, 0))) (hl : ws.length = 8) (hws : ∀ (j : Nat) x, ((⟨#[115, 101, 114, 118, 105, 99, 101]⟩ : ByteArray) :: ws)[j]? = some x → W.cell? ⟨A, j, none⟩ = some (.string x))
    (hn : ∀ (j : Nat) x, ws[j]? = some x → numI x.data.toList = some (c.val j : Int)) :
    Calls Tryz.prog 34 #[.pointer (some ⟨sp, 0, none⟩), .slice (some ⟨A, 0, none⟩) 9 9] W fun e w' => e = .returned (.string (⟨#[111, 107, 10]⟩ : ByteArray)) ∧
      ∃ sv tb tg ab ag qb qg cg fm, Serv0 c w' sv tb tg ab ag qb qg cg fm ∧ (∀ b ∈ [sv, tb, tg, ab, ag, qb, qg, cg, fm], W.heap.size ≤ b) ∧ w'.heap[sp]? = some (.cells #[.pointer (some ⟨sv, 0, none⟩)] 61 (0, 0)) ∧ Kept (· = sp) W.heap.size W w' := by
  have hc0 : W.cell? ⟨A, 0, none⟩ = some (.string (⟨#[115, 101, 114, 118, 105, 99, 101]⟩ : ByteArray)) := hws 0 _ rfl
  have hws1 : WordsAt W A 1 ws := fun j x hj => by rw [Nat.add_comm]; exact hws (j + 1) x hj
  have HN := Lib.hid hn
  clear hn hws
  go_enter Tryz.func34, Tryz.ntmps34
  go_wp2_with (fail)
  refine (service_ok sp A 8 svc ws c hc W hT h9 hA hsp hl hws1 HN.out).mono ?_
  rintro e w' ⟨rfl, h⟩
  go_wp2
  go_ret
  exact ⟨rfl, h⟩
end Go.Proofs
