/- Contract: (*Shell).does at a word of the table, over whatever the word's parser, script.Do and the word's teller do. -/
import Derived.Test.YtebdaijenenepaaGreatDoorVerbs
import Derived.Test.YtebdaijenenepaaGreatDoorLine
import Derived.Test.YtebdaijenenepaaGreatDoorNew
import Derived.Deep.CutRange
import Derived.Laws.IdiomCopy
import Derived.Laws.EntriesVeiled
set_option maxRecDepth 100000
namespace Go.Proofs
open Go Go.RowKit

/-- The cells of a row of strings. -/
def WordsAt (w : World) (A o : Nat) (ws : List ByteArray) : Prop := ∀ (j : Nat) x, ws[j]? = some x → w.cell? ⟨A, o + j, none⟩ = some (.string x)

def joined (xs : List ByteArray) : ByteArray := ⟨(Lib.join (xs.map fun x : ByteArray => x.data.toList) [32] ++ [10]).toArray⟩

theorem Blk.set {w : World} {b : Nat} {cs : Array Value} {T : TypeId} (h : Blk w b cs T) (j : Nat) (v : Value) : Blk (w.setCell ⟨b, j, none⟩ v) b (cs.setIfInBounds j v) T := by
  unfold Blk at *; simp [World.setCell, Array.getElem?_modify, h]
def putAt : Array Value → Nat → List Value → Array Value
  | cs, _, [] => cs
  | cs, o, v :: r => putAt (cs.setIfInBounds o v) (o + 1) r
theorem Blk.setCells {b : Nat} {T : TypeId} : ∀ (vs : List Value) (o : Nat) {w : World} {cs : Array Value}, Blk w b cs T → Blk (w.setCells b o vs) b (putAt cs o vs) T
  | [], _, _, _, h => h
  | v :: r, o, _, _, h => Blk.setCells r (o + 1) (h.set o v)
theorem putAt_list : ∀ (vs : List Value) (o : Nat) (cs : Array Value), o + vs.length = cs.size → (putAt cs o vs).toList = cs.toList.take o ++ vs
  | [], o, cs, h => by
    have : cs.toList.length = o := by simp at h ⊢; omega
    simp only [putAt, List.append_nil]
    exact (List.take_of_length_le (by omega)).symm
  | v :: r, o, cs, h => by
    have h' : o + 1 + r.length = (cs.setIfInBounds o v).size := by simp at h ⊢; omega
    rw [putAt, putAt_list r (o + 1) _ h']
    have ho : o < cs.toList.length := by simp at h ⊢; omega
    have e : (cs.toList.set o v).take (o + 1) = cs.toList.take o ++ [v] := by
      rw [List.set_eq_take_append_cons_drop, if_pos ho]
      have hl : (cs.toList.take o).length = o := by rw [List.length_take]; omega
      rw [List.take_append, hl, List.take_of_length_le (by omega), show o + 1 - o = 1 by omega]
      rfl
    rw [Array.toList_setIfInBounds, e, List.append_assoc]
    rfl
theorem Blk.all {w : World} {b : Nat} {cs : Array Value} {T : TypeId} (h : Blk w b cs T) (vs : List Value) (hl : vs.length = cs.size) : Blk (w.setCells b 0 vs) b vs.toArray T := by
  have e : putAt cs 0 vs = vs.toArray := by
    apply Array.toList_inj.1
    rw [putAt_list vs 0 cs (by omega)]
    simp
  exact e ▸ h.setCells vs 0
theorem Blk.set_other {w : World} {b : Nat} {cs : Array Value} {T : TypeId} (h : Blk w b cs T) (p : Addr) (v : Value) (hne : b ≠ p.block) : Blk (w.setCell p v) b cs T :=
  (Below.heap_setCell w p v b hne).trans h
theorem Kept.set {b B : Nat} {a w : World} (h : Kept (· = b) B a w) (o : Nat) (v : Value) : Kept (· = b) B a (w.setCell ⟨b, o, none⟩ v) :=
  h.trans ⟨rfl, rfl, rfl, by simp, fun k _ hs => Below.heap_setCell _ _ _ _ (fun e => hs e)⟩
theorem Kept.setCells {b B : Nat} : ∀ (vs : List Value) (o : Nat) {a w : World}, Kept (· = b) B a w → Kept (· = b) B a (w.setCells b o vs)
  | [], _, _, _, h => h
  | v :: r, o, _, _, h => Kept.setCells r (o + 1) (h.set o v)
theorem Kept.cell {S : Nat → Prop} {B : Nat} {w w' : World} (h : Kept S B w w') {p : Addr} (hp : p.block < B) (hs : ¬ S p.block) : w'.cell? p = w.cell? p := World.cell?_of_block (w := w) (h.block p.block hp hs)
theorem Kept.blk {S : Nat → Prop} {B : Nat} {w w' : World} (h : Kept S B w w') {b : Nat} {cs : Array Value} {T : TypeId} (hb : Blk w b cs T) (hp : b < B) (hs : ¬ S b) : Blk w' b cs T := (h.block b hp hs).trans hb
theorem Kept.refl (S : Nat → Prop) (B : Nat) (w : World) : Kept S B w w := Kept.of (Below.refl B w)
theorem VC.mono {B B' : Nat} {b : Nat → Nat} {w : World} (h : VC B b w) (hB : B' ≤ B) : VC B' b w :=
  ⟨h.c0, h.c1, h.c2, h.c3, h.c4, h.c5, h.c6, fun j hj => Nat.lt_of_le_of_lt hB (h.lo j hj)⟩
theorem VC.set {B : Nat} {b : Nat → Nat} {w : World} (h : VC B b w) (p : Addr) (v : Value) (hp : p.block ≤ B) : VC B b (w.setCell p v) :=
  h.same fun k hk _ => Below.heap_setCell w p v k (by omega)

theorem verbs_drew (W : World) : Calls Tryz.prog 46 #[] W.drew fun e w' => ∃ b : Nat → Nat, e = .returned (.map (some W.heap.size)) ∧ w'.heap[W.heap.size]? = some (.map (vE b) 11) ∧ VC W.heap.size b w' ∧ Below W.heap.size W w' :=
  (verbs_any W.drew).mono fun _ _ ⟨b, h1, h2, h3, h4⟩ => ⟨b, h1, h2, h3, below_of_drew h4⟩

def tailV (A : Nat) : Nat → Value
  | 0 => .slice (some ⟨A, 0, none⟩) 0 0
  | m + 1 => .slice (some ⟨A, 1, none⟩) (m + 1) (m + 1)
/-- An operation (script.Op). -/
structure OpV where
  k : Int
  h : Int
  s : Int
  at_ : Int
  n : Int
  alg : Int
  tp : Option Addr
  tl : Nat
  tc : Nat
  un : Bool
  ap : Option Addr
  al : Nat
  ac : Nat
  bp : Option Addr
  bl : Nat
  bc : Nat
  cp : Option Addr
  cl : Nat
  cc : Nat
  dp : Option Addr
  dl : Nat
  dc : Nat
/-- An answer (script.Out). -/
structure OutV where
  e : Nat
  n : Int
  bp : Option Addr
  bl : Nat
  bc : Nat
  id : Int
  st : Int
  by_ : Int
abbrev Z102 : Array Value := #[.int .i64 0, .int .i64 0, .int .i64 0, .int .i64 0, .int .i64 0, .int .i64 0, .slice none 0 0, .bool false, .slice none 0 0, .slice none 0 0, .slice none 0 0, .slice none 0 0]
abbrev Z106 : Array Value := #[.int .i64 0, .int .i64 0, .slice none 0 0, .int .i64 0, .int .i64 0, .int .i64 0]
abbrev OpV.cells (x : OpV) : Array Value := #[.int .i64 x.k, .int .i64 x.h, .int .i64 x.s, .int .i64 x.at_, .int .i64 x.n, .int .i64 x.alg, .slice x.tp x.tl x.tc, .bool x.un, .slice x.ap x.al x.ac, .slice x.bp x.bl x.bc, .slice x.cp x.cl x.cc, .slice x.dp x.dl x.dc]
abbrev OutV.cells (o : OutV) : Array Value := #[.int .i64 o.e, .int .i64 o.n, .slice o.bp o.bl o.bc, .int .i64 o.id, .int .i64 o.st, .int .i64 o.by_]
/-- What is said of fresh blocks from B on, and so outlasts whatever leaves them. -/
def Lasts {α : Type} (PX : α → Nat → World → Prop) : Prop := ∀ x B w w', PX x B w → (∀ k, B ≤ k → k < w.heap.size → w'.heap[k]? = w.heap[k]?) → w.heap.size ≤ w'.heap.size → PX x B w'
theorem Lasts.below {α : Type} {PX : α → Nat → World → Prop} (h : Lasts PX) {x : α} {B : Nat} {w w' : World} (hx : PX x B w) (hb : Below w.heap.size w w') : PX x B w' :=
  h x B w w' hx (fun k _ hk => hb.block k hk) hb.size

set_option maxHeartbeats 8000000 in
theorem does_op (sp : Nat) (svc : Value) (A : Nat) (ws : List ByteArray) (v0 : ByteArray) (W : World)
    (hA : A < W.heap.size) (hsp : sp < W.heap.size) (hws : ∀ (j : Nat) x, ws[j]? = some x → W.cell? ⟨A, j, none⟩ = some (.string x)) (hv0 : ws[0]? = some v0) (hns : (v0.toList == [115, 101, 114, 118, 105, 99, 101]) = false)
    (hsv : W.cell? ⟨sp, 0, none⟩ = some svc)
    (i : Nat) (n : Nat) (hn8 : n ≤ 8) (g r : Nat) (eg : ∀ args w, (callFunc g args).run Tryz.prog w = .ok (.enter g args) w) (er : ∀ args w, (callFunc r args).run Tryz.prog w = .ok (.enter r args) w)
    (cg cr : (Nat → Nat) → Array Value) (hit : ∀ b, Instr.findNow .string (.string v0) (vE b).toList 0 = some (some (i, .agg #[.int .i64 n, .func (.func g) #[] (cg b), .func (.func r) #[] (cr b)])))
    (R : ByteArray → World → Prop) (S : Nat → Prop) (PX : OpV → Nat → World → Prop) (PO : OutV → Nat → World → Prop) (lX : Lasts PX) (lO : Lasts PO)
    (hP : ∀ b w1, Below W.heap.size W w1 → VC W.heap.size b w1 → Calls Tryz.prog g (#[tailV A n] ++ cg b) w1 fun e w' => Below w1.heap.size w1 w' ∧
      ((e = .panicked [wrongV 1] ∧ ∀ w', Below W.heap.size W w' → R (toldS 1) w') ∨ ∃ x : OpV, e = .returned (.agg x.cells) ∧ PX x w1.heap.size w'))
    (Tx : ByteArray → Prop)
    (hS : (svc = .pointer none ∧ ∀ w', Below W.heap.size W w' → R (toldS 3) w') ∨ ∃ sv, svc = .pointer (some sv) ∧ ∀ x B w1, W.heap.size ≤ B → PX x B w1 → Below W.heap.size W w1 → Calls Tryz.prog 48 #[.pointer (some sv), .agg x.cells] w1 fun e w' =>
      Kept S w1.heap.size w1 w' ∧ ∃ (o : OutV) (B' : Nat), e = .returned (.agg o.cells) ∧ w1.heap.size ≤ B' ∧ PO o B' w' ∧ o.e < 100 ∧
        ∀ out w'', (if o.e = 0 then Tx out else out = toldS o.e) → Kept (fun k => W.heap.size ≤ k ∧ k < w1.heap.size) w'.heap.size w' w'' → R out w'')
    (hSl : ∀ k, S k → k < W.heap.size) (hSsp : ¬ S sp)
    (hT : ∀ (o : OutV) B b w, o.e = 0 → W.heap.size ≤ B → PO o B w → VC W.heap.size b w → Calls Tryz.prog r (#[.agg o.cells] ++ cr b) w fun e w' => Below w.heap.size w w' ∧
      ∃ B0 o0 xs c, e = .returned (.slice (some ⟨B0, o0, none⟩) xs.length c) ∧ B0 < w'.heap.size ∧ (∀ (j : Nat) x, xs[j]? = some x → w'.cell? ⟨B0, o0 + j, none⟩ = some (.string x)) ∧ xs.length ≤ c ∧ xs.length ≤ 140737488355328 ∧
        (Lib.join (xs.map fun x : ByteArray => x.data.toList) [32]).length ≤ 140737488355328 ∧ Tx (joined xs)) :
    Calls Tryz.prog 34 #[.pointer (some ⟨sp, 0, none⟩), .slice (some ⟨A, 0, none⟩) (n + 1) (n + 1)] W fun e w' => DoesPost R e w' ∧ Kept S W.heap.size W w' := by
  have hc0 := hws 0 v0 hv0
  have HWS := Lib.hid hws
  have HV0 := Lib.hid hv0
  clear hws hv0
  go_enter Tryz.func34, Tryz.ntmps34
  go_upto_region 3 with (fail)
  go_cut [5, 6] from 17 to 24 (fun p q wx => ∃ (b : Nat → Nat) (vb : Nat), p = .pointer (some ⟨vb, 0, none⟩) ∧ q = .bool true ∧ W.heap.size ≤ vb ∧ Blk wx vb #[.int .i64 n, .func (.func g) #[] (cg b), .func (.func r) #[] (cr b)] 95 ∧ VC W.heap.size b wx ∧ Below W.heap.size W wx)
  case first =>
    refine Draw.wp_draw [0,0,2,6,15,31,63,63,0,383,1023] [0,8,9] [[(1, .calm, []), (2, .calm, []), (3, .look, []), (0, .eff, [3]), (4, .look, []), (5, .calm, []), (6, .calm, []), (7, .calm, []), (8, .eff, [3,4]), (9, .eff, []), (10, .calm, [])], [(1, .calm, []), (2, .calm, []), (3, .look, []), (8, .eff, [3]), (0, .eff, [3]), (4, .look, []), (5, .calm, []), (6, .calm, []), (7, .calm, []), (9, .eff, []), (10, .calm, [])]] (by kernel_rfl) (by kernel_rfl) (by repeat (first | exact Draw.insP_body | refine Draw.insP_then ?_ | refine Draw.insP_block ?_)) ?_
    refine List.forall_mem_cons.2 ⟨?_, List.forall_mem_cons.2 ⟨?_, fun _ h => nomatch h⟩⟩
    · repeat (first
        | (refine Draw.wpD_calm rfl rfl (fun K hK => ?_); go_simp; (try go_bits); (try go_simp); refine hK _ _ ?_; clear hK K)
        | (refine Draw.wpD_look rfl rfl (fun K hK => ?_); go_simp; (try go_bits); (try go_simp); refine hK _ _ ?_; clear hK K))
      refine Draw.wpD_effc rfl rfl (fun K hK => ?_)
      go_simp
      refine (verbs_drew _).mono ?_
      rintro e w1 ⟨b, rfl, hm1, hV1, hB1⟩
      have hlk := fun (w : World) (h : w.heap[W.heap.size]? = some (Obj.map (vE b) 11)) => Mp.run_lookup_hit verbsPlain h (k := .string v0) trivial true (hit b)
      have hc1 : w1.cell? ⟨A, 0, none⟩ = some (.string v0) := (hB1.cell (p := ⟨A, 0, none⟩) hA).trans hc0
      have hlk1 := hlk w1 hm1
      refine hK _ _ (by repeat' (first | (refine List.forall_mem_cons.2 ⟨?_, ?_⟩) | (exact fun _ h => nomatch h) | (refine ⟨_, rfl, fun _ => ?_⟩; go_simp))) ?_
      clear hK K
      repeat (first
        | (refine Draw.wpD_calm rfl rfl (fun K hK => ?_); go_simp; (try go_bits); (try go_simp); refine hK _ _ ?_; clear hK K)
        | (refine Draw.wpD_look rfl rfl (fun K hK => ?_); go_simp; (try go_bits); (try go_simp); refine hK _ _ ?_; clear hK K))
      have hBa := (Below.refl w1.heap.size w1).alloc (Nat.le_refl _) (.cells #[.int .i64 0, .nilFunc, .nilFunc] 95)
      have hc2 : (w1.alloc (.cells #[.int .i64 0, .nilFunc, .nilFunc] 95)).cell? ⟨A, 0, none⟩ = some (.string v0) := (hBa.cell (p := ⟨A, 0, none⟩) (Nat.lt_of_lt_of_le hA hB1.size)).trans hc1
      have hlk2 := hlk (w1.alloc (.cells #[.int .i64 0, .nilFunc, .nilFunc] 95)) ((hBa.block _ (lt_of_some hm1)).trans hm1)
      refine Draw.wpD_effc rfl rfl (fun K hK => ?_)
      go_simp
      refine hK _ _ (by repeat' (first | (refine List.forall_mem_cons.2 ⟨?_, ?_⟩) | (exact fun _ h => nomatch h) | (refine ⟨_, rfl, fun _ => ?_⟩; go_simp))) ?_
      clear hK K
      repeat (first
        | (refine Draw.wpD_calm rfl rfl (fun K hK => ?_); go_simp; (try go_bits); (try go_simp); refine hK _ _ ?_; clear hK K)
        | (refine Draw.wpD_look rfl rfl (fun K hK => ?_); go_simp; (try go_bits); (try go_simp); refine hK _ _ ?_; clear hK K))
      refine Draw.wpD_eff rfl rfl (fun K hK => ?_)
      go_simp
      refine hK _ _ ?_
      clear hK K
      repeat (first
        | (refine Draw.wpD_calm rfl rfl (fun K hK => ?_); go_simp; (try go_bits); (try go_simp); refine hK _ _ ?_; clear hK K)
        | (refine Draw.wpD_look rfl rfl (fun K hK => ?_); go_simp; (try go_bits); (try go_simp); refine hK _ _ ?_; clear hK K))
      refine Draw.wpD_nil ?_
      go_wp2_with (fail)
      go_meet
      case rel => exact ⟨b, w1.heap.size, rfl, rfl, hB1.size, Blk.last _ _ _, hV1.same fun k _ hk => Below.heap_alloc _ _ _ hk, (hB1.alloc hB1.size _)⟩
    · repeat (first
        | (refine Draw.wpD_calm rfl rfl (fun K hK => ?_); go_simp; (try go_bits); (try go_simp); refine hK _ _ ?_; clear hK K)
        | (refine Draw.wpD_look rfl rfl (fun K hK => ?_); go_simp; (try go_bits); (try go_simp); refine hK _ _ ?_; clear hK K))
      have hB0 : Below W.heap.size W (W.alloc (.cells #[.int .i64 0, .nilFunc, .nilFunc] 95)) := (Below.refl W.heap.size W).alloc (Nat.le_refl _) (.cells #[.int .i64 0, .nilFunc, .nilFunc] 95)
      have hbk0 := Blk.last W #[.int .i64 0, .nilFunc, .nilFunc] 95
      have hs0 : (W.alloc (.cells #[.int .i64 0, .nilFunc, .nilFunc] 95)).heap.size = W.heap.size + 1 := by simp
      have hc1 : (W.alloc (.cells #[.int .i64 0, .nilFunc, .nilFunc] 95)).cell? ⟨A, 0, none⟩ = some (.string v0) := (hB0.cell (p := ⟨A, 0, none⟩) hA).trans hc0
      have HS0 := Lib.hid hs0
      clear hs0
      generalize hW1 : (W.alloc (.cells #[.int .i64 0, .nilFunc, .nilFunc] 95)) = w1 at *
      refine Draw.wpD_effc rfl rfl (fun K hK => ?_)
      go_simp
      refine hK _ _ (by repeat' (first | (refine List.forall_mem_cons.2 ⟨?_, ?_⟩) | (exact fun _ h => nomatch h) | (refine ⟨_, rfl, fun _ => ?_⟩; go_simp))) ?_
      clear hK K
      refine Draw.wpD_effc rfl rfl (fun K hK => ?_)
      go_simp
      refine (verbs_drew _).mono ?_
      rintro e w2 ⟨b, rfl, hm2, hV2, hB2⟩
      have hlk := Mp.run_lookup_hit verbsPlain hm2 (k := .string v0) trivial true (hit b)
      simp only [if_true] at hlk
      have hB02 := below_then hB0 hB2
      have hc2 : w2.cell? ⟨A, 0, none⟩ = some (.string v0) := (hB02.cell (p := ⟨A, 0, none⟩) hA).trans hc0
      have hbk2 := hbk0.below hB2 (show W.heap.size < w1.heap.size by have := HS0.out; omega)
      refine hK _ _ (by repeat' (first | (refine List.forall_mem_cons.2 ⟨?_, ?_⟩) | (exact fun _ h => nomatch h) | (refine ⟨_, rfl, fun _ => ?_⟩; go_simp))) ?_
      clear hK K
      repeat (first
        | (refine Draw.wpD_calm rfl rfl (fun K hK => ?_); go_simp; (try go_bits); (try go_simp); refine hK _ _ ?_; clear hK K)
        | (refine Draw.wpD_look rfl rfl (fun K hK => ?_); go_simp; (try go_bits); (try go_simp); refine hK _ _ ?_; clear hK K))
      have hbc : w2.cell? ⟨W.heap.size, 0, none⟩ = some (.int .i64 0) := hbk2.cell 0
      have hbc1 : w2.cell? ⟨W.heap.size, 1, none⟩ = some .nilFunc := hbk2.cell 1
      have hbc2 : w2.cell? ⟨W.heap.size, 2, none⟩ = some .nilFunc := hbk2.cell 2
      have hbf := fun j => hbk2.free j
      refine Draw.wpD_eff rfl rfl (fun K hK => ?_)
      go_simp
      refine hK _ _ ?_
      clear hK K
      repeat (first
        | (refine Draw.wpD_calm rfl rfl (fun K hK => ?_); go_simp; (try go_bits); (try go_simp); refine hK _ _ ?_; clear hK K)
        | (refine Draw.wpD_look rfl rfl (fun K hK => ?_); go_simp; (try go_bits); (try go_simp); refine hK _ _ ?_; clear hK K))
      refine Draw.wpD_nil ?_
      go_wp2_with (fail)
      go_meet
      case rel =>
        have hV3 : VC W.heap.size b w2 := hV2.mono (by have := HS0.out; omega)
        exact ⟨b, W.heap.size, rfl, rfl, Nat.le_refl _, ((hbk2.set 0 _).set 1 _).set 2 _, ((hV3.set _ _ (Nat.le_refl _)).set _ _ (Nat.le_refl _)).set _ _ (Nat.le_refl _),
          ((hB02.setCell (Nat.le_refl _) _).setCell (Nat.le_refl _) _).setCell (Nat.le_refl _) _⟩
  case rest =>
    obtain ⟨b, vb, rfl, rfl, hvb, hB, hV, hbel⟩ := hcut
    have l0 : wc.cell? ⟨vb, 0, none⟩ = some (.int .i64 n) := hB.cell 0
    go_wp2_with (fail)
    refine (need_ok _ _).mono ?_
    rintro e w1 ⟨rfl, rfl⟩
    clear l0
    go_upto_region 5 with (fail)
    go_cut [7] from 35 to 39 (fun p wx => ∃ (xb B : Nat) (x : OpV), p = .pointer (some ⟨xb, 0, none⟩) ∧ W.heap.size ≤ xb ∧ W.heap.size ≤ B ∧ Blk wx xb x.cells 102 ∧ PX x B wx ∧ Blk wx vb #[.int .i64 n, .func (.func g) #[] (cg b), .func (.func r) #[] (cr b)] 95 ∧ VC W.heap.size b wx ∧ Below W.heap.size W wx)
    case first =>
      have l1 : wc.cell? ⟨vb, 1, none⟩ = some (.func (.func g) #[] (cg b)) := hB.cell 1
      have hPb := hP b wc.drew hbel.drew (hV.same fun _ _ _ => rfl)
      have hbk := hB.lt
      refine Draw.wp_draw [0,1,0,4,15,0,63] [4,5,6] [[(0, .calm, []), (1, .look, []), (2, .calm, []), (3, .calm, []), (4, .eff, []), (5, .eff, [1]), (6, .eff, [])], [(0, .calm, []), (1, .look, []), (2, .calm, []), (3, .calm, []), (5, .eff, [1]), (4, .eff, []), (6, .eff, [])]] (by kernel_rfl) (by kernel_rfl) (by repeat (first | exact Draw.insP_body | refine Draw.insP_then ?_ | refine Draw.insP_block ?_)) ?_
      refine List.forall_mem_cons.2 ⟨?_, List.forall_mem_cons.2 ⟨?_, fun _ h => nomatch h⟩⟩
      · rcases n with - | m
        all_goals
          have hm1 : ∀ m : Nat, (1 : Int) ≤ (m : Int) + 1 + 1 := fun m => by omega
          repeat (first
            | (refine Draw.wpD_calm rfl rfl (fun K hK => ?_); go_simp; (try go_bits); (try go_simp); refine hK _ _ ?_; clear hK K)
            | (refine Draw.wpD_look rfl rfl (fun K hK => ?_); go_simp; (try go_bits); (try go_simp); refine hK _ _ ?_; clear hK K))
          refine Draw.wpD_effc rfl rfl (fun K hK => ?_)
          go_simp
          refine hPb.mono ?_
          rintro e w2 ⟨hb2, ⟨rfl, hR⟩ | ⟨x, rfl, hPX⟩⟩
          · exact ⟨rfl, .inr ⟨1, by omega, rfl, hR w2 (below_then hbel (below_of_drew hb2))⟩, Kept.of (below_then hbel (below_of_drew hb2))⟩
          replace hb2 := below_of_drew hb2
          have l1' : w2.cell? ⟨vb, 1, none⟩ = some (.func (.func g) #[] (cg b)) := (hb2.cell (p := ⟨vb, 1, none⟩) hbk).trans l1
          refine hK _ _ (by repeat' (first | (refine List.forall_mem_cons.2 ⟨?_, ?_⟩) | (exact fun _ h => nomatch h) | (refine ⟨_, rfl, fun _ => ?_⟩; go_simp))) ?_
          clear hK K
          repeat (first
            | (refine Draw.wpD_calm rfl rfl (fun K hK => ?_); go_simp; (try go_bits); (try go_simp); refine hK _ _ ?_; clear hK K)
            | (refine Draw.wpD_look rfl rfl (fun K hK => ?_); go_simp; (try go_bits); (try go_simp); refine hK _ _ ?_; clear hK K))
          have l1'' : (w2.alloc (.cells Z102 102)).cell? ⟨vb, 1, none⟩ = some (.func (.func g) #[] (cg b)) := (((Below.refl w2.heap.size w2).alloc (Nat.le_refl _) _).cell (p := ⟨vb, 1, none⟩) (Nat.lt_of_lt_of_le hbk hb2.size)).trans l1'
          refine Draw.wpD_effc rfl rfl (fun K hK => ?_)
          go_simp
          refine hK _ _ (by repeat' (first | (refine List.forall_mem_cons.2 ⟨?_, ?_⟩) | (exact fun _ h => nomatch h) | (refine ⟨_, rfl, fun _ => ?_⟩; go_simp))) ?_
          clear hK K
          refine Draw.wpD_eff rfl rfl (fun K hK => ?_)
          go_simp
          refine hK _ _ ?_
          clear hK K
          refine Draw.wpD_nil ?_
          go_wp2_with (fail)
          go_meet
          case rel =>
            have hl3 := hB.below hb2 hbk
            have hb3 := below_then hbel hb2
            exact ⟨w2.heap.size, wc.heap.size, x, rfl, hb3.size, hbel.size, Blk.last _ _ _, lX.below hPX ((Below.refl w2.heap.size w2).alloc (Nat.le_refl _) _), hl3.alloc _, (hV.same fun k _ hk => hb2.block k hk).same fun k _ hk => Below.heap_alloc _ _ _ hk, hb3.alloc hb3.size _⟩
      · rcases n with - | m
        all_goals
          have hm1 : ∀ m : Nat, (1 : Int) ≤ (m : Int) + 1 + 1 := fun m => by omega
          repeat (first
            | (refine Draw.wpD_calm rfl rfl (fun K hK => ?_); go_simp; (try go_bits); (try go_simp); refine hK _ _ ?_; clear hK K)
            | (refine Draw.wpD_look rfl rfl (fun K hK => ?_); go_simp; (try go_bits); (try go_simp); refine hK _ _ ?_; clear hK K))
          have hba := (Below.refl wc.heap.size wc).alloc (Nat.le_refl _) (.cells Z102 102)
          have hxb := Blk.last wc Z102 102
          have hs0 := Lib.hid (show (wc.alloc (.cells Z102 102)).heap.size = wc.heap.size + 1 by simp)
          have hB1 := hB.below hba hbk
          have hV1 : VC W.heap.size b (wc.alloc (.cells Z102 102)) := hV.same fun k _ hk => hba.block k hk
          have hbel1 := below_then hbel hba
          have l1' : (wc.alloc (.cells Z102 102)).cell? ⟨vb, 1, none⟩ = some (.func (.func g) #[] (cg b)) := hB1.cell 1
          refine Draw.wpD_effc rfl rfl (fun K hK => ?_)
          go_simp
          refine hK _ _ (by repeat' (first | (refine List.forall_mem_cons.2 ⟨?_, ?_⟩) | (exact fun _ h => nomatch h) | (refine ⟨_, rfl, fun _ => ?_⟩; go_simp))) ?_
          clear hK K
          have hxl := hxb.lt
          have hbk1 := hB1.lt
          generalize (wc.alloc (.cells Z102 102)) = w1 at *
          have hPb := hP b w1.drew hbel1.drew (hV1.same fun _ _ _ => rfl)
          refine Draw.wpD_effc rfl rfl (fun K hK => ?_)
          go_simp
          refine hPb.mono ?_
          rintro e w2 ⟨hb2, ⟨rfl, hR⟩ | ⟨x, rfl, hPX⟩⟩
          · exact ⟨rfl, .inr ⟨1, by omega, rfl, hR w2 (below_then hbel1 (below_of_drew hb2))⟩, Kept.of (below_then hbel1 (below_of_drew hb2))⟩
          replace hb2 := below_of_drew hb2
          have hx2 := hxb.below hb2 hxl
          have hxc := fun j => hx2.cell j
          have hxf := fun j => hx2.free j
          refine hK _ _ (by repeat' (first | (refine List.forall_mem_cons.2 ⟨?_, ?_⟩) | (exact fun _ h => nomatch h) | (refine ⟨_, rfl, fun _ => ?_⟩; go_simp))) ?_
          clear hK K
          repeat (first
            | (refine Draw.wpD_calm rfl rfl (fun K hK => ?_); go_simp; (try go_bits); (try go_simp); refine hK _ _ ?_; clear hK K)
            | (refine Draw.wpD_look rfl rfl (fun K hK => ?_); go_simp; (try go_bits); (try go_simp); refine hK _ _ ?_; clear hK K))
          refine Draw.wpD_eff rfl rfl (fun K hK => ?_)
          go_simp
          refine hK _ _ ?_
          clear hK K hxc hxf
          refine Draw.wpD_nil ?_
          go_wp2_with (fail)
          generalize hw3 : World.setCell _ _ _ = w3
          have hw4 : w3 = w2.setCells wc.heap.size 0 x.cells.toList := hw3.symm
          have hx3 : Blk w3 wc.heap.size x.cells 102 := hw4 ▸ hx2.all x.cells.toList rfl
          have hk3 : Kept (· = wc.heap.size) w2.heap.size w2 w3 := hw4 ▸ (Kept.refl _ _ w2).setCells _ 0
          clear hw3 hw4
          go_meet
          case rel =>
            have hs := hs0.out
            have hsz := hb2.size
            have hne : ∀ k, k < W.heap.size → k ≠ wc.heap.size := fun k hk => by have := hbel.size; omega
            have hb12 := below_then hbel1 hb2
            have hb13 : Below W.heap.size W w3 := hb12.trans (((hk3.mono (B' := W.heap.size) (S' := (· = wc.heap.size)) (by have := hb12.size; omega) fun _ _ h => h).below fun k hk => hne k hk))
            refine ⟨wc.heap.size, w1.heap.size, x, rfl, hbel.size, hbel1.size, hx3, lX x w1.heap.size w2 w3 hPX (fun k hk hlt => hk3.block k hlt (by omega)) hk3.size, ?_, ?_, hb13⟩
            · exact (hk3.block vb (by omega) (by omega)).trans (hB1.below hb2 hbk1)
            · exact hV.same fun k _ hk => ((hk3.block k (by omega) (by omega)).trans (hb2.block k (by omega))).trans (hba.block k hk)
    case rest =>
      obtain ⟨xb, B, x, rfl, hxb, hBl, hX, hPX, hB2, hV2, hbel2⟩ := hcut
      clear hP hB hV hbel
      have hsc : wc.cell? ⟨sp, 0, none⟩ = some svc := (hbel2.cell (p := ⟨sp, 0, none⟩) hsp).trans hsv
      rcases hS with ⟨rfl, hR⟩ | ⟨sv, rfl, hD⟩
      · go_wp2_with (fail)
        refine (need_no _ _).mono ?_
        rintro e w2 ⟨rfl, rfl⟩
        exact ⟨rfl, .inr ⟨3, by omega, rfl, hR _ hbel2⟩, Kept.of hbel2⟩
      · go_wp2_with (fail)
        refine (need_ok _ _).mono ?_
        rintro e w2 ⟨rfl, rfl⟩
        go_upto_region 7 with (fail)
        go_cut [8] from 46 to 51 (fun p wx => ∃ (ob B' : Nat) (o : OutV), p = .pointer (some ⟨ob, 0, none⟩) ∧ W.heap.size ≤ B' ∧ Blk wx ob o.cells 106 ∧ PO o B' wx ∧ o.e < 100 ∧ Blk wx vb #[.int .i64 n, .func (.func g) #[] (cg b), .func (.func r) #[] (cr b)] 95 ∧ VC W.heap.size b wx ∧ Kept S W.heap.size W wx ∧
          ∀ out w'', (if o.e = 0 then Tx out else out = toldS o.e) → Below wx.heap.size wx w'' → R out w'')
        case first =>
          have hnS : ∀ k, W.heap.size ≤ k → ¬ S k := fun k hk hs => absurd (hSl k hs) (by omega)
          have hxl := hX.lt
          have hvl := hB2.lt
          have hWl := hbel2.size
          have hxc := fun j => hX.cell j
          refine Draw.wp_draw [0,1,3,7,0,31,0,127] [5,6,7] [[(0, .calm, []), (1, .calm, []), (2, .calm, []), (3, .look, []), (4, .look, []), (5, .eff, []), (6, .eff, [3,4]), (7, .eff, [])], [(0, .calm, []), (1, .calm, []), (2, .calm, []), (3, .look, []), (4, .look, []), (6, .eff, [3,4]), (5, .eff, []), (7, .eff, [])]] (by kernel_rfl) (by kernel_rfl) (by repeat (first | exact Draw.insP_body | refine Draw.insP_then ?_ | refine Draw.insP_block ?_)) ?_
          refine List.forall_mem_cons.2 ⟨?_, List.forall_mem_cons.2 ⟨?_, fun _ h => nomatch h⟩⟩
          · repeat (first
              | (refine Draw.wpD_calm rfl rfl (fun K hK => ?_); go_simp; (try go_bits); (try go_simp); refine hK _ _ ?_; clear hK K)
              | (refine Draw.wpD_look rfl rfl (fun K hK => ?_); go_simp; (try go_bits); (try go_simp); refine hK _ _ ?_; clear hK K))
            refine Draw.wpD_effc rfl rfl (fun K hK => ?_)
            go_simp
            refine (hD x B wc.drew hBl (lX x B wc wc.drew hPX (fun _ _ _ => rfl) (Nat.le_refl _)) hbel2.drew).mono ?_
            rintro e w2 ⟨hk2, o, B', rfl, hB', hPO, ho, hR⟩
            change Kept S wc.heap.size _ _ at hk2
            change wc.heap.size ≤ B' at hB'
            have hX2 := hk2.blk hX hxl (hnS _ hxb)
            have hs2 : w2.cell? ⟨sp, 0, none⟩ = some (.pointer (some sv)) := (hk2.cell (p := ⟨sp, 0, none⟩) (show sp < wc.heap.size by omega) hSsp).trans hsc
            have hxc2 := fun j => hX2.cell j
            refine hK _ _ (by repeat' (first | (refine List.forall_mem_cons.2 ⟨?_, ?_⟩) | (exact fun _ h => nomatch h) | (refine ⟨_, rfl, fun _ => ?_⟩; go_simp))) ?_
            clear hK K
            repeat (first
              | (refine Draw.wpD_calm rfl rfl (fun K hK => ?_); go_simp; (try go_bits); (try go_simp); refine hK _ _ ?_; clear hK K)
              | (refine Draw.wpD_look rfl rfl (fun K hK => ?_); go_simp; (try go_bits); (try go_simp); refine hK _ _ ?_; clear hK K))
            have hba := (Below.refl w2.heap.size w2).alloc (Nat.le_refl _) (.cells Z106 106)
            have hszk := hk2.size
            have hX3 := hX2.below hba hX2.lt
            have hs3 : (w2.alloc (.cells Z106 106)).cell? ⟨sp, 0, none⟩ = some (.pointer (some sv)) := (hba.cell (p := ⟨sp, 0, none⟩) (show sp < w2.heap.size by change wc.heap.size ≤ _ at hszk; omega)).trans hs2
            have hxc3 := fun j => hX3.cell j
            refine Draw.wpD_effc rfl rfl (fun K hK => ?_)
            go_simp
            refine hK _ _ (by repeat' (first | (refine List.forall_mem_cons.2 ⟨?_, ?_⟩) | (exact fun _ h => nomatch h) | (refine ⟨_, rfl, fun _ => ?_⟩; go_simp))) ?_
            clear hK K
            refine Draw.wpD_eff rfl rfl (fun K hK => ?_)
            go_simp
            refine hK _ _ ?_
            clear hK K
            refine Draw.wpD_nil ?_
            go_wp2_with (fail)
            go_meet
            case rel =>
              have hbb : ∀ T cs, Below w2.heap.size w2 (w2.alloc (.cells cs T)) := fun T cs => (Below.refl w2.heap.size w2).alloc (Nat.le_refl _) _
              change wc.heap.size ≤ w2.heap.size at hszk
              refine ⟨w2.heap.size, B', o, rfl, by omega, Blk.last _ _ _, lO.below hPO (hbb _ _), ho, (hk2.blk hB2 hvl (hnS _ hvb)).alloc _, ?_, ?_, fun out w'' hout hw => hR out w'' hout ?_⟩
              · exact (hV2.same fun k h1 h2 => hk2.block k h2 (hnS k (Nat.le_of_lt h1))).same fun k _ hk => Below.heap_alloc _ _ _ hk
              · exact ((Kept.of hbel2.drew).trans (hk2.mono hWl fun _ _ h => h)).trans (Kept.of ((hbb _ _).mono (by omega)))
              · exact (Kept.of (hbb _ _)).trans (Kept.of (hw.mono (by simp)))
          · repeat (first
              | (refine Draw.wpD_calm rfl rfl (fun K hK => ?_); go_simp; (try go_bits); (try go_simp); refine hK _ _ ?_; clear hK K)
              | (refine Draw.wpD_look rfl rfl (fun K hK => ?_); go_simp; (try go_bits); (try go_simp); refine hK _ _ ?_; clear hK K))
            have hba := (Below.refl wc.heap.size wc).alloc (Nat.le_refl _) (.cells Z106 106)
            have hob := Blk.last wc Z106 106
            have hs0 := Lib.hid (show (wc.alloc (.cells Z106 106)).heap.size = wc.heap.size + 1 by simp)
            have hX1 := hX.below hba hxl
            have hs1 : (wc.alloc (.cells Z106 106)).cell? ⟨sp, 0, none⟩ = some (.pointer (some sv)) := (hba.cell (p := ⟨sp, 0, none⟩) (show sp < wc.heap.size by omega)).trans hsc
            have hxc1 := fun j => hX1.cell j
            have hbel1 := below_then hbel2 hba
            have hPX1 : PX x B (wc.alloc (.cells Z106 106)) := lX.below hPX hba
            refine Draw.wpD_effc rfl rfl (fun K hK => ?_)
            go_simp
            refine hK _ _ (by repeat' (first | (refine List.forall_mem_cons.2 ⟨?_, ?_⟩) | (exact fun _ h => nomatch h) | (refine ⟨_, rfl, fun _ => ?_⟩; go_simp))) ?_
            clear hK K
            have hol := hob.lt
            generalize (wc.alloc (.cells Z106 106)) = w1 at *
            refine Draw.wpD_effc rfl rfl (fun K hK => ?_)
            go_simp
            refine (hD x B w1.drew hBl (lX x B w1 w1.drew hPX1 (fun _ _ _ => rfl) (Nat.le_refl _)) hbel1.drew).mono ?_
            rintro e w2 ⟨hk2, o, B', rfl, hB', hPO, ho, hR⟩
            change Kept S w1.heap.size _ _ at hk2
            change w1.heap.size ≤ B' at hB'
            have ho2 := hk2.blk hob hol (hnS _ hWl)
            have hoc := fun j => ho2.cell j
            have hof := fun j => ho2.free j
            refine hK _ _ (by repeat' (first | (refine List.forall_mem_cons.2 ⟨?_, ?_⟩) | (exact fun _ h => nomatch h) | (refine ⟨_, rfl, fun _ => ?_⟩; go_simp))) ?_
            clear hK K
            refine Draw.wpD_eff rfl rfl (fun K hK => ?_)
            go_simp
            refine hK _ _ ?_
            clear hK K hoc hof
            refine Draw.wpD_nil ?_
            go_wp2_with (fail)
            generalize hw3 : World.setCell _ _ _ = w3
            have hw4 : w3 = w2.setCells wc.heap.size 0 o.cells.toList := hw3.symm
            have ho3 : Blk w3 wc.heap.size o.cells 106 := hw4 ▸ ho2.all o.cells.toList rfl
            have hk3 : Kept (· = wc.heap.size) w2.heap.size w2 w3 := hw4 ▸ (Kept.refl _ _ w2).setCells _ 0
            clear hw3 hw4
            go_meet
            case rel =>
              have hs := hs0.out
              have hB1 := hB2.below hba hvl
              have hsz : w1.heap.size ≤ w2.heap.size := hk2.size
              refine ⟨wc.heap.size, B', o, rfl, by omega, ho3, lO o B' w2 w3 hPO (fun k hk hlt => hk3.block k hlt (by omega)) hk3.size, ho, ?_, ?_, ?_, fun out w'' hout hw => hR out w'' hout ?_⟩
              · exact hk3.blk (hk2.blk (show Blk w1.drew _ _ _ from hB1) (by omega) (hnS _ hvb)) (by omega) (by omega)
              · exact hV2.same fun k h1 h2 => ((hk3.block k (by omega) (by omega)).trans (hk2.block k (by omega) (hnS k (Nat.le_of_lt h1)))).trans (hba.block k h2)
              · exact ((Kept.of hbel1.drew).trans (hk2.mono (by omega) fun _ _ h => h)).trans (hk3.mono (by omega) fun k h1 h2 => by omega)
              · exact (hk3.mono (Nat.le_refl _) (fun k _ h2 => by change k = wc.heap.size at h2; show _ ∧ k < w1.heap.size; omega)).trans (Kept.of (hw.mono hk3.size))
        case rest =>
          obtain ⟨ob, B', o, rfl, hBl', hO, hPO, ho, hBv, hV3, hk3, hR⟩ := hcut
          clear hX hB2 hV2 hbel2 hsc hD hPX
          have hoc := fun j => hO.cell j
          have hvc2 : wc.cell? ⟨vb, 2, none⟩ = some (.func (.func r) #[] (cr b)) := hBv.cell 2
          go_wp2_with (fail)
          by_cases he : o.e = 0
          · have h0 : (o.e : Int) = 0 := by omega
            rw [h0]
            refine (fine_ok _).mono ?_
            rintro e w4 ⟨rfl, rfl⟩
            have hTb := hT o B' b wc he hBl' hPO hV3
            rw [show o.cells = #[.int .i64 0, .int .i64 o.n, .slice o.bp o.bl o.bc, .int .i64 o.id, .int .i64 o.st, .int .i64 o.by_] from by rw [← h0]] at hTb
            have hoc0 : wc.cell? ⟨ob, 0, none⟩ = some (.int .i64 0) := by rw [hoc 0, ← h0]; rfl
            go_wp2_with (fail)
            refine hTb.mono ?_
            rintro e w5 ⟨hb5, B0, o0, xs, c, rfl, hB0, hxs, hc, hN, hl, hTx⟩
            have hl9 : ¬ 9223372036854775807 < (Lib.join (xs.map fun x : ByteArray => x.data.toList) [32]).length + 1 := by omega
            go_wp2_with (fail)
            refine (Tryz.strings_Join B0 o0 c xs (⟨#[32]⟩ : ByteArray) w5 hxs hB0 hN hc hl).mono ?_
            rintro e w6 ⟨rfl, hb6⟩
            go_wp2_with (fail)
            go_ret
            have hb56 := below_then hb5 hb6
            refine ⟨.inl ⟨joined xs, ret_str2 ?_, hR _ _ (by rw [if_pos he]; exact hTx) hb56⟩, hk3.trans (Kept.of (hb56.mono hk3.size))⟩
            simp [joined]
          · refine (fine_no _ (by omega) _).mono ?_
            rintro e w4 ⟨rfl, rfl⟩
            exact ⟨rfl, .inr ⟨o.e, ho, rfl, hR _ _ (by rw [if_neg he]) (Below.refl _ _)⟩, hk3⟩
end Go.Proofs
