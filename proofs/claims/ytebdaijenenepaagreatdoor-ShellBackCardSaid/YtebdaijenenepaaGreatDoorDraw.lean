/- A region that draws its order is walked once in each order of its effects: a theorem of our own, over any program. Its condition: the closed check 'okDraw'. -/
import Derived.Orders
import Derived.WalkKit
namespace Go.Draw
open Go

inductive Kind where
  | calm
  | look
  | eff
  deriving DecidableEq

abbrev Item := Nat × Kind × List Nat

section
variable {P : Program} {ops : Array Oper} {Q : Exit → Act → World → Prop}

def Steady (P : Program) (ops : Array Oper) (j : Nat) (a : Act) (w : World) : Prop :=
  ∃ o, ops[j]? = some o ∧ (Region.wanted o (yielded ops a.tmps) = true → ∃ v, (execOp a.eval o).run P w = .ok (.value v) w ∧ a.put o.dst v = a)

def stepD (P : Program) (ops : Array Oper) (Q : Exit → Act → World → Prop) (k : Kind) (o : Oper) (K : Act → World → Prop) (a : Act) (w : World) : Prop :=
  if Region.wanted o (yielded ops a.tmps) then
    match k with
    | .calm => ∃ v, (∀ w', (execOp a.eval o).run P w' = .ok (.value v) w') ∧ K (a.put o.dst v) w
    | .look => ∃ v, (execOp a.eval o).run P w = .ok (.value v) w ∧ K (a.put o.dst v) w
    | .eff => o.wp P a w K Q
  else K (a.put o.dst undef) w

def wpD (P : Program) (ops : Array Oper) (Q : Exit → Act → World → Prop) : List Item → Act → World → Prop
  | [], a, w => Q .normal a w
  | (i, k, c) :: r, a, w => ∃ o, ops[i]? = some o ∧ stepD P ops Q k o (fun a' w' => (∀ j ∈ c, Steady P ops j a' w') ∧ wpD P ops Q r a' w') a w

/-- A panic's way does not look at the frame. -/
def InsP (Q : Exit → Act → World → Prop) : Prop := ∀ c a a' w, a.defers = a'.defers → Q (.panic c) a w → Q (.panic c) a' w

theorem insP_then {K : Act → World → Prop} (h : InsP Q) : InsP (Exit.then K Q) := fun c a a' w hd hq => h c a a' w hd hq
theorem insP_block {id : Nat} (h : InsP Q) : InsP (Exit.inBlock id Q) := fun c a a' w hd hq => h c a a' w hd hq
theorem insP_body {fn : Func} {R : Ending → World → Prop} : InsP (bodyPost P fn R) := fun _ _ _ _ hd ⟨h1, h2⟩ => ⟨hd ▸ h1, h2⟩

theorem stepD_mono {k : Kind} {o : Oper} {K K' : Act → World → Prop} {a : Act} {w : World} (h : ∀ a w, K a w → K' a w) (hh : stepD P ops Q k o K a w) : stepD P ops Q k o K' a w := by
  unfold stepD at *
  split
  · rename_i hw
    rw [if_pos hw] at hh
    cases k with
    | calm => obtain ⟨v, h1, h2⟩ := hh; exact ⟨v, h1, h _ _ h2⟩
    | look => obtain ⟨v, h1, h2⟩ := hh; exact ⟨v, h1, h _ _ h2⟩
    | eff => exact Oper.wp_mono h hh
  · rename_i hw
    rw [if_neg hw] at hh
    exact h _ _ hh

theorem wpOp_of_stepD {i : Nat} {k : Kind} {o : Oper} {K : Act → World → Prop} {a : Act} {w : World} (hi : ops[i]? = some o) (h : stepD P ops Q k o K a w) : wpOp P ops Q i K a w := by
  unfold wpOp
  simp only [hi]
  unfold stepD at h
  split
  · rename_i hw
    rw [if_pos hw] at h
    left
    cases k with
    | calm => obtain ⟨v, h1, h2⟩ := h; simp only [Oper.wp, h1 w, Oper.upon]; exact h2
    | look => obtain ⟨v, h1, h2⟩ := h; simp only [Oper.wp, h1, Oper.upon]; exact h2
    | eff => exact h
  · rename_i hw
    rw [if_neg hw] at h
    exact h

/-- What an operation leaves: its own slot, and the deferred calls. -/
def Left (o : Oper) (a a' : Act) : Prop := ∃ ds u, a' = ({ a with defers := ds } : Act).put o.dst u

theorem stepD_put {k : Kind} {o : Oper} {d : Option Tmp} {v : Value} {K : Act → World → Prop} {a : Act} {w : World}
    (hs : ∀ cs b, o.op ≠ .select cs b) (h1 : ∀ e, d = some e → e ∉ o.looksAt ops) (h2 : ∀ e, d = some e → o.dst ≠ some e) (hQ : InsP Q)
    (h : stepD P ops Q k o K (a.put d v) w) :
    stepD P ops Q k o (fun a' w' => Left o a a' ∧ ((k ≠ .eff ∨ Region.wanted o (yielded ops a.tmps) = false) → w' = w) ∧ K (a'.put d v) w') a w := by
  have hput : ∀ (a : Act) (ds : List Deferred), ({ a.put d v with defers := ds } : Act) = ({ a with defers := ds } : Act).put d v := by
    intro a ds; cases d <;> rfl
  unfold stepD at *
  rw [wanted_put o a d v h1] at h
  split
  · rename_i hw
    rw [if_pos hw] at h
    cases k with
    | calm =>
      obtain ⟨u, hu, hK⟩ := h
      rw [execOp_put o hs a d v h1] at hu
      refine ⟨u, hu, ⟨a.defers, u, rfl⟩, fun _ => rfl, ?_⟩
      rw [Act.put_comm a v u h2] at hK
      exact hK
    | look =>
      obtain ⟨u, hu, hK⟩ := h
      rw [execOp_put o hs a d v h1] at hu
      refine ⟨u, hu, ⟨a.defers, u, rfl⟩, fun _ => rfl, ?_⟩
      rw [Act.put_comm a v u h2] at hK
      exact hK
    | eff =>
      have hno : ∀ {w' : World}, (Kind.eff ≠ Kind.eff ∨ Region.wanted o (yielded ops a.tmps) = false) → w' = w := by
        intro w' hx
        rcases hx with hx | hx
        · exact absurd rfl hx
        · rw [hx] at hw; exact absurd hw (by simp)
      unfold Oper.wp at *
      rw [execOp_put o hs a d v h1] at h
      generalize (execOp a.eval o).run P w = r at *
      cases r with
      | ok n w' =>
        cases n <;> simp only [Oper.upon] at h ⊢
        case value u => exact ⟨⟨a.defers, u, rfl⟩, hno, by rw [← Act.put_comm a v u h2]; exact h⟩
        case skip => exact ⟨⟨a.defers, undef, rfl⟩, hno, by rw [← Act.put_comm a v undef h2]; exact h⟩
        case defer x =>
          refine ⟨⟨x :: a.defers, undef, rfl⟩, hno, ?_⟩
          rw [← Act.put_comm _ v undef h2, ← Act.put_defers]
          exact h
        case enter f args =>
          refine Calls.mono h fun e w'' he => ?_
          cases e with
          | returned u => exact ⟨⟨a.defers, u, rfl⟩, hno, by rw [← Act.put_comm a v u h2]; exact he⟩
          | panicked c => exact hQ c _ _ _ (by cases d <;> rfl) he
          | outgrown => exact he
        case row row args => exact Rows.mono h fun u w'' he => ⟨⟨a.defers, u, rfl⟩, hno, by rw [← Act.put_comm a v u h2]; exact he⟩
      | halt x w' =>
        cases x <;> simp only [Oper.upon] at h ⊢
        case panic u => exact hQ _ _ _ _ (by cases d <;> rfl) h
  · rename_i hw
    rw [if_neg hw] at h
    refine ⟨⟨a.defers, undef, rfl⟩, fun _ => rfl, ?_⟩
    rw [Act.put_comm a v undef h2] at h
    exact h

theorem left_same {o s : Oper} {a a' : Act} (hs : ∀ cs b, s.op ≠ .select cs b) (h3 : ∀ e, o.dst = some e → e ∉ s.looksAt ops) (h : Left o a a') :
    execOp a'.eval s = execOp a.eval s ∧ Region.wanted s (yielded ops a'.tmps) = Region.wanted s (yielded ops a.tmps) := by
  obtain ⟨ds, u, rfl⟩ := h
  have e : execOp ({ a with defers := ds } : Act).eval s = execOp a.eval s := execOp_congr s hs fun x _ => by cases x <;> rfl
  exact ⟨(execOp_put s hs _ _ _ h3).trans e, wanted_put s _ _ _ h3⟩

theorem put_put (a : Act) (d : Option Tmp) (v u : Value) : (a.put d v).put d u = a.put d u := by
  cases d with
  | none => rfl
  | some d => simp [Act.put]

theorem stepD_calm {o : Oper} {K : Act → World → Prop} {a : Act} {w : World} (hw : Region.wanted o (yielded ops a.tmps) = true) :
    stepD P ops Q .calm o K a w ↔ ∃ v, (∀ w', (execOp a.eval o).run P w' = .ok (.value v) w') ∧ K (a.put o.dst v) w := by
  unfold stepD; rw [if_pos hw]
theorem stepD_look {o : Oper} {K : Act → World → Prop} {a : Act} {w : World} (hw : Region.wanted o (yielded ops a.tmps) = true) :
    stepD P ops Q .look o K a w ↔ ∃ v, (execOp a.eval o).run P w = .ok (.value v) w ∧ K (a.put o.dst v) w := by
  unfold stepD; rw [if_pos hw]
theorem stepD_off {k : Kind} {o : Oper} {K : Act → World → Prop} {a : Act} {w : World} (hw : ¬ Region.wanted o (yielded ops a.tmps) = true) :
    stepD P ops Q k o K a w ↔ K (a.put o.dst undef) w := by
  unfold stepD; rw [if_neg hw]

/-- The swap of two neighbours: what stands first only computes, or only reads and is read again behind the other. -/
theorem swap {ks ki : Kind} {s o : Oper} {j : Nat} {K : Act → World → Prop} {a : Act} {w : World} (hj : ops[j]? = some s)
    (hss : ∀ cs b, s.op ≠ .select cs b) (hso : ∀ cs b, o.op ≠ .select cs b) (hap : s.apart ops o = true) (hself : ks = .look → ∀ e, s.dst = some e → e ∉ s.looksAt ops)
    (hks : ks ≠ .eff) (hQ : InsP Q)
    (h : stepD P ops Q ks s (fun a1 w1 => stepD P ops Q ki o (fun a2 w2 => (ks = .look → ki = .eff → Steady P ops j a2 w2) ∧ K a2 w2) a1 w1) a w) :
    stepD P ops Q ki o (fun a1 w1 => stepD P ops Q ks s K a1 w1) a w := by
  obtain ⟨h1, h2, h3⟩ := Oper.apart_spec hap
  by_cases hw : Region.wanted s (yielded ops a.tmps) = true
  · cases ks with
    | eff => exact absurd rfl hks
    | calm =>
      obtain ⟨v, hv, hk⟩ := (stepD_calm hw).1 h
      have hk' := stepD_put hso h1 h2 hQ hk
      refine stepD_mono (fun a' w' hx => ?_) hk'
      obtain ⟨hl, _, hK⟩ := hx
      obtain ⟨e1, e2⟩ := left_same hss h3 hl
      rw [stepD_calm (by rw [e2]; exact hw)]
      exact ⟨v, fun w'' => by rw [e1]; exact hv w'', hK.2⟩
    | look =>
      obtain ⟨v, hv, hk⟩ := (stepD_look hw).1 h
      have hk' := stepD_put hso h1 h2 hQ hk
      refine stepD_mono (fun a' w' hx => ?_) hk'
      obtain ⟨hl, hsame, hst, hK⟩ := hx
      obtain ⟨e1, e2⟩ := left_same hss h3 hl
      have hw' : Region.wanted s (yielded ops a'.tmps) = true := by rw [e2]; exact hw
      rw [stepD_look hw']
      by_cases hki : ki = .eff
      · obtain ⟨s', hs', hst'⟩ := hst rfl hki
        rw [hj] at hs'
        cases hs'
        obtain ⟨v', hr, hp⟩ := hst' (by rw [wanted_put s _ _ _ (hself rfl)]; exact hw')
        rw [execOp_put s hss _ _ _ (hself rfl)] at hr
        rw [put_put] at hp
        exact ⟨v', hr, by rw [hp]; exact hK⟩
      · have hww := hsame (.inl hki)
        subst hww
        exact ⟨v, by rw [e1]; exact hv, hK⟩
  · have hk' := stepD_put hso h1 h2 hQ ((stepD_off hw).1 h)
    refine stepD_mono (fun a' w' hx => ?_) hk'
    obtain ⟨hl, _, _, hK⟩ := hx
    obtain ⟨e1, e2⟩ := left_same hss h3 hl
    rw [stepD_off (by rw [e2]; exact hw)]
    exact hK

theorem put_cancel {a : Act} {x y : Option Tmp} {v u : Value} (h : ∀ d, x = some d → y ≠ some d) (e : (a.put x v).put y u = a.put y u) : a.put x v = a := by
  cases x with
  | none => rfl
  | some d =>
    cases y with
    | none => exact e
    | some d' =>
      have hne : d' ≠ d := fun he => h d rfl (he ▸ rfl)
      have e' : ((a.tmps.setIfInBounds d v).setIfInBounds d' u)[d]? = (a.tmps.setIfInBounds d' u)[d]? := by
        have := congrArg (fun a : Act => a.tmps[d]?) e
        simpa [Act.put] using this
      rw [Array.getElem?_setIfInBounds_ne hne, Array.getElem?_setIfInBounds_ne hne] at e'
      have ht : a.tmps.setIfInBounds d v = a.tmps := by
        apply Array.ext (by simp)
        intro k h1 h2
        by_cases hk : d = k
        · subst hk
          rw [Array.getElem?_eq_getElem h1, Array.getElem?_eq_getElem h2] at e'
          exact Option.some.inj e'
        · rw [Array.getElem_setIfInBounds_ne (by simpa using h2) hk]
      simp [Act.put, ht]

def waits (cert : List Nat) (i s : Nat) : Bool := (cert.getD i 0).testBit s
/-- 's' may be crossed by 'i' (which has the checks 'ci'). -/
def crossB (ops : Array Oper) (cert : List Nat) (s i : Item) : Bool :=
  match ops[s.1]?, ops[i.1]? with
  | some os, some oi =>
    os.apart ops oi && decide (s.2.1 ≠ .eff) && s.2.2.isEmpty &&
    (if s.2.1 = .look then (match os.dst with | some e => !(os.looksAt ops).contains e | none => true) else true) &&
    (if s.2.1 = .look ∧ i.2.1 = .eff then i.2.2.contains s.1 else true) &&
    (i.2.2.all fun l => (l == s.1 || waits cert l s.1) || match ops[l]? with
      | some ol => (match os.dst with | some e => !(ol.looksAt ops).contains e && ol.dst != some e | none => true)
      | none => true)
  | _, _ => false

theorem steady_back {s : Oper} {l : Nat} {a : Act} {w : World} {v : Value} (hsel : ∀ (j : Nat) (o : Oper) cs b, ops[j]? = some o → o.op ≠ .select cs b)
    (h : ∀ ol, ops[l]? = some ol → ∀ e, s.dst = some e → e ∉ ol.looksAt ops ∧ ol.dst ≠ some e) (hst : Steady P ops l (a.put s.dst v) w) : Steady P ops l a w := by
  obtain ⟨ol, hl, hh⟩ := hst
  refine ⟨ol, hl, fun hw => ?_⟩
  have h1 : ∀ e, s.dst = some e → e ∉ ol.looksAt ops := fun e he => (h ol hl e he).1
  have h2 : ∀ e, s.dst = some e → ol.dst ≠ some e := fun e he => (h ol hl e he).2
  obtain ⟨u, hr, hp⟩ := hh (by rw [wanted_put ol a s.dst v h1]; exact hw)
  rw [execOp_put ol (fun cs b => hsel l ol cs b hl) a s.dst v h1] at hr
  refine ⟨u, hr, ?_⟩
  rw [Act.put_comm a v u h2] at hp
  exact put_cancel (y := s.dst) (u := v) (fun d hd he => h2 d he hd) hp

theorem pull {cert : List Nat} {i : Item} {o : Oper} {post : List Item} (hi : ops[i.1]? = some o) (hsel : ∀ (j : Nat) (o : Oper) cs b, ops[j]? = some o → o.op ≠ .select cs b) (hQ : InsP Q) :
    ∀ (pre : List Item) (D : List Nat) (a : Act) (w : World), (∀ j ∈ D, j ∈ i.2.2) → (∀ j ∈ D, ∀ s ∈ pre, s.1 ≠ j ∧ waits cert j s.1 = false) → (pre.Pairwise fun s x => waits cert s.1 x.1 = false) → (pre.map (·.1)).Nodup → (∀ s ∈ pre, crossB ops cert s i = true) →
      wpD P ops Q (pre ++ i :: post) a w →
      stepD P ops Q i.2.1 o (fun a' w' => (∀ j ∈ D, Steady P ops j a' w') ∧ wpD P ops Q (pre ++ post) a' w') a w := by
  intro pre
  induction pre with
  | nil =>
    intro D a w hD _ _ _ _ h
    obtain ⟨o', ho', h⟩ := h
    rw [hi] at ho'
    cases ho'
    exact stepD_mono (fun a w hx => ⟨fun j hj => hx.1 j (hD j hj), hx.2⟩) h
  | cons s pre ih =>
    intro D a w hD hne hord hnd hX h
    obtain ⟨os, hos, h⟩ := h
    have hx := hX s (by simp)
    have hc : os.apart ops o = true ∧ s.2.1 ≠ .eff ∧ s.2.2 = [] ∧ (s.2.1 = .look → ∀ e, os.dst = some e → e ∉ os.looksAt ops) ∧ (s.2.1 = .look → i.2.1 = .eff → s.1 ∈ i.2.2) ∧
        (∀ l ∈ i.2.2, l ≠ s.1 → waits cert l s.1 = false → ∀ ol, ops[l]? = some ol → ∀ e, os.dst = some e → e ∉ ol.looksAt ops ∧ ol.dst ≠ some e) := by
      unfold crossB at hx
      simp only [hos, hi, Bool.and_eq_true, decide_eq_true_eq, List.isEmpty_iff] at hx
      obtain ⟨⟨⟨⟨⟨h1, h2⟩, h3⟩, h4⟩, h5⟩, h6⟩ := hx
      refine ⟨h1, h2, h3, fun hl e he => ?_, fun hl he => ?_, fun l hl hls hlw ol hol e he => ?_⟩
      · rw [if_pos hl, he] at h4; simpa using h4
      · rw [if_pos ⟨hl, he⟩] at h5; simpa using h5
      · rw [List.all_eq_true] at h6
        have := h6 l hl
        simp only [hol, he, Bool.or_eq_true, beq_iff_eq, Bool.and_eq_true, Bool.not_eq_true', bne_iff_ne] at this
        rcases this with (h | h) | h
        · exact absurd h hls
        · rw [hlw] at h; exact absurd h (by simp)
        · exact ⟨by simpa using h.1, h.2⟩
    obtain ⟨h1, h2, h3, h4, h5, h6⟩ := hc
    have hnd' : (pre.map (·.1)).Nodup := by simp at hnd; exact hnd.2
    have hnotin : ∀ s' ∈ pre, s'.1 ≠ s.1 := by
      simp only [List.map_cons, List.nodup_cons] at hnd
      intro s' hs' he
      exact hnd.1 (he ▸ List.mem_map.2 ⟨s', hs', rfl⟩)
    have inner : stepD P ops Q s.2.1 os (fun a1 w1 => stepD P ops Q i.2.1 o (fun a2 w2 => (s.2.1 = .look → i.2.1 = .eff → Steady P ops s.1 a2 w2) ∧ ((∀ j ∈ D, Steady P ops j a2 w2) ∧ wpD P ops Q (pre ++ post) a2 w2)) a1 w1) a w := by
      refine stepD_mono (fun a1 w1 hh => ?_) h
      by_cases hle : s.2.1 = .look ∧ i.2.1 = .eff
      · refine stepD_mono (fun a2 w2 hz => ?_) (ih (s.1 :: D) a1 w1 (fun j hj => ?_) (fun j hj s' hs' => ?_) (List.pairwise_cons.1 hord).2 hnd' (fun s' hs' => hX s' (by simp [hs'])) hh.2)
        · exact ⟨fun _ _ => hz.1 s.1 (by simp), fun j hj => hz.1 j (by simp [hj]), hz.2⟩
        · rcases List.mem_cons.1 hj with rfl | hj
          · exact h5 hle.1 hle.2
          · exact hD j hj
        · rcases List.mem_cons.1 hj with rfl | hj
          · exact ⟨hnotin s' hs', (List.pairwise_cons.1 hord).1 s' hs'⟩
          · exact hne j hj s' (by simp [hs'])
      · refine stepD_mono (fun a2 w2 hz => ?_) (ih D a1 w1 hD (fun j hj s' hs' => hne j hj s' (by simp [hs'])) (List.pairwise_cons.1 hord).2 hnd' (fun s' hs' => hX s' (by simp [hs'])) hh.2)
        exact ⟨fun x y => absurd ⟨x, y⟩ hle, hz⟩
    have sw := swap hos (fun cs b => hsel _ _ cs b hos) (fun cs b => hsel _ _ cs b hi) h1 h4 h2 hQ inner
    refine stepD_mono (fun a1 w1 hh => ?_) sw
    refine ⟨fun j hj => ?_, os, hos, stepD_mono (fun a2 w2 hz => ⟨by rw [h3]; simp, hz.2⟩) hh⟩
    have hjs : j ≠ s.1 := fun e => (hne j hj s (by simp)).1 e.symm
    have back : ∀ v, Steady P ops j (a1.put os.dst v) w1 → Steady P ops j a1 w1 := fun v hst => steady_back hsel (h6 j (hD j hj) hjs (hne j hj s (by simp)).2) hst
    unfold stepD at hh
    by_cases hw : Region.wanted os (yielded ops a1.tmps) = true
    · rw [if_pos hw] at hh
      cases hk : s.2.1 with
      | eff => exact absurd hk h2
      | calm => rw [hk] at hh; obtain ⟨v, _, hz⟩ := hh; exact back v (hz.1 j hj)
      | look => rw [hk] at hh; obtain ⟨v, _, hz⟩ := hh; exact back v (hz.1 j hj)
    · rw [if_neg hw] at hh
      exact back _ (hh.1 j hj)

def noDirect (ops : Array Oper) (s i : Nat) : Bool :=
  match ops[s]? with
  | some o => o.after.all fun e => !(Region.binds .any e) || e.on != i
  | none => true
/-- 'i' waits on an effect that comes behind the effect 's' in the order 'ord'. -/
def late (cert ord : List Nat) (s i : Nat) : Bool := (ord.dropWhile (· != s)).tail.any fun e => waits cert i e
def okPair (ops : Array Oper) (cert ord : List Nat) (s i : Item) : Bool :=
  (noDirect ops s.1 i.1 && !(waits cert s.1 i.1)) && (waits cert i.1 s.1 || crossB ops cert s i || (decide (s.2.1 = .eff) && decide (i.2.1 = .eff)) || (decide (s.2.1 = .eff) && late cert ord s.1 i.1))
def pairsB (ops : Array Oper) (cert ord : List Nat) : List Item → Bool
  | [] => true
  | s :: r => r.all (okPair ops cert ord s) && pairsB ops cert ord r
def certB (ops : Array Oper) (cert : List Nat) : Bool :=
  (List.range ops.size).all fun i => match ops[i]? with
    | some o => (o.after.all fun e => !(Region.binds .any e) || decide (e.on < i)) &&
      cert.getD i 0 == o.after.toList.foldl (fun m e => if Region.binds .any e then m ||| 2 ^ e.on ||| cert.getD e.on 0 else m) 0
    | none => true
def permB (n : Nat) (c : List Item) : Bool := decide (c.map (·.1)).Nodup && (List.range n).all (fun i => (c.map (·.1)).contains i) && c.all (fun x => decide (x.1 < n)) && decide (c.length = n)
def selB (ops : Array Oper) : Bool := ops.all fun o => match o.op with | .select .. => false | _ => true
def effB (E : List Nat) (c : List Item) : Bool := c.all fun x => decide (x.2.1 = .eff) == E.contains x.1
def effOf (c : List Item) : List Nat := (c.filter fun x => decide (x.2.1 = .eff)).map (·.1)
def coverB (cert : List Nat) : Nat → List (List Nat) → List Nat → Bool
  | 0, cands, R => R.isEmpty && cands.contains []
  | n + 1, cands, R => if R.isEmpty then cands.contains [] else
    R.all fun e => (R.any fun f => f != e && waits cert e f) || coverB cert n (cands.filterMap fun l => match l with | x :: xs => if x = e then some xs else none | [] => none) (R.filter (· != e))
def effRangeB (n : Nat) (E : List Nat) : Bool := E.all fun i => decide (i < n)
def okDraw (ops : Array Oper) (cert E : List Nat) (cands : List (List Item)) : Bool :=
  !cands.isEmpty && effRangeB ops.size E && selB ops && certB ops cert && cands.all (fun c => permB ops.size c && effB E c && pairsB ops cert (effOf c) c) && coverB cert E.length (cands.map effOf) E

structure Inv (ops : Array Oper) (cert ord : List Nat) (listed : Array Bool) (c : List Item) : Prop where
  size : listed.size = ops.size
  mem : ∀ i, listed.getD i true = false ↔ i ∈ c.map (·.1)
  nodup : (c.map (·.1)).Nodup
  pairs : c.Pairwise fun s i => okPair ops cert ord s i = true
  down : ∀ j, listed.getD j false = true → ∀ s, waits cert j s = true → listed.getD s false = true

theorem foldl_bits (cert : List Nat) (s : Nat) : ∀ (l : List Edge) (m : Nat), (l.foldl (fun m e => if Region.binds .any e then m ||| 2 ^ e.on ||| cert.getD e.on 0 else m) m).testBit s = true →
    m.testBit s = true ∨ ∃ e ∈ l, Region.binds .any e = true ∧ (e.on = s ∨ waits cert e.on s = true) := by
  intro l
  induction l with
  | nil => intro m h; exact .inl h
  | cons e l ih =>
    intro m h
    rw [List.foldl_cons] at h
    rcases ih _ h with h | ⟨e', he', h⟩
    · by_cases hb : Region.binds .any e = true
      · rw [if_pos hb, Nat.testBit_or, Nat.testBit_or, Nat.testBit_two_pow] at h
        simp only [Bool.or_eq_true, decide_eq_true_eq] at h
        rcases h with (h | h) | h
        · exact .inl h
        · exact .inr ⟨e, by simp, hb, .inl h⟩
        · exact .inr ⟨e, by simp, hb, .inr h⟩
      · rw [if_neg hb] at h; exact .inl h
    · exact .inr ⟨e', by simp [he'], h⟩

theorem cert_spec {cert : List Nat} (hc : certB ops cert = true) {i : Nat} {o : Oper} (hi : ops[i]? = some o) :
    (∀ e ∈ o.after, Region.binds .any e = true → e.on < i) ∧ ∀ s, waits cert i s = true → ∃ e ∈ o.after, Region.binds .any e = true ∧ (e.on = s ∨ waits cert e.on s = true) := by
  have hlt : i < ops.size := (Array.getElem?_eq_some_iff.1 hi).1
  unfold certB at hc
  rw [List.all_eq_true] at hc
  have h := hc i (List.mem_range.2 hlt)
  simp only [hi, Bool.and_eq_true, beq_iff_eq] at h
  obtain ⟨h1, h2⟩ := h
  refine ⟨fun e he hb => ?_, fun s hs => ?_⟩
  · rw [Array.all_eq_true_iff_forall_mem] at h1
    have := h1 e he
    simpa [hb] using this
  · unfold waits at hs
    rw [h2] at hs
    rcases foldl_bits cert s o.after.toList 0 hs with h | ⟨e, he, h⟩
    · simp at h
    · exact ⟨e, by simpa using he, h⟩

theorem getD_ne_of {listed : Array Bool} {j : Nat} (hj : listed.getD j true = false) : listed.getD j false = false := by
  simp only [Array.getD_eq_getD_getElem?] at *
  cases h : listed[j]? with
  | none => rfl
  | some b => rw [h] at hj; simpa using hj

theorem listed_of {listed : Array Bool} {j : Nat} (hlt : j < listed.size) (hj : ¬ listed.getD j true = false) : listed.getD j false = true := by
  simp only [Array.getD_eq_getD_getElem?, Array.getElem?_eq_getElem hlt, Option.getD_some] at *
  simpa using hj

theorem nodup_mid {x : Nat} {a b : List Nat} (h : (a ++ x :: b).Nodup) : x ∉ a ∧ x ∉ b := by
  obtain ⟨_, h2, h3⟩ := List.nodup_append.1 h
  exact ⟨fun hx => h3 x hx x (by simp) rfl, (List.nodup_cons.1 h2).1⟩

theorem Inv.next {cert ord : List Nat} (hc : certB ops cert = true) {listed : Array Bool} {pre post : List Item} {i : Item} (h : Inv ops cert ord listed (pre ++ i :: post))
    (hr : i.1 ∈ Region.ready .any ops listed) : Inv ops cert ord (listed.setIfInBounds i.1 true) (pre ++ post) := by
  obtain ⟨h0, o, ho, hall⟩ := mem_ready.1 hr
  have hlt : i.1 < ops.size := (Array.getElem?_eq_some_iff.1 ho).1
  have hsub : (pre ++ post).Sublist (pre ++ i :: post) := List.Sublist.append_left (List.sublist_cons_self _ _) _
  have hnd := h.nodup
  refine ⟨by simpa using h.size, fun j => ?_, h.nodup.sublist (hsub.map _), h.pairs.sublist hsub, fun j hj s hs => ?_⟩
  · simp only [List.map_append, List.mem_append]
    have hnot : i.1 ∉ pre.map (·.1) ∧ i.1 ∉ post.map (·.1) := by
      simp only [List.map_append, List.map_cons] at hnd
      exact nodup_mid hnd
    by_cases hij : i.1 = j
    · subst hij
      constructor
      · intro hx
        rw [Array.getD_eq_getD_getElem?, Array.getElem?_setIfInBounds_self_of_lt (by rw [h.size]; exact hlt)] at hx
        simp at hx
      · intro hx
        rcases hx with hx | hx
        · exact absurd hx hnot.1
        · exact absurd hx hnot.2
    · rw [getD_set_ne true hij, h.mem j]
      simp only [List.map_append, List.map_cons, List.mem_append, List.mem_cons]
      constructor
      · rintro (h | h | h)
        · exact .inl h
        · exact absurd h.symm hij
        · exact .inr h
      · rintro (h | h)
        · exact .inl h
        · exact .inr (.inr h)
  · by_cases hij : i.1 = j
    · subst hij
      obtain ⟨e, he, hb, h'⟩ := (cert_spec hc ho).2 s hs
      have hl := hall e he hb
      rcases h' with rfl | h'
      · exact getD_set_true hl
      · exact getD_set_true (h.down _ hl _ h')
    · rw [getD_set_ne false hij] at hj
      exact getD_set_true (h.down j hj s hs)

theorem Inv.ready_ne {cert ord : List Nat} (hc : certB ops cert = true) {listed : Array Bool} {c : List Item} (h : Inv ops cert ord listed c) (hne : c ≠ []) : Region.ready .any ops listed ≠ [] := by
  cases c with
  | nil => exact absurd rfl hne
  | cons i r =>
    intro hnil
    have h0 : listed.getD i.1 true = false := (h.mem i.1).2 (by simp)
    have hlt : i.1 < listed.size := by
      rcases Nat.lt_or_ge i.1 listed.size with hh | hh
      · exact hh
      · rw [Array.getD_eq_getD_getElem?, Array.getElem?_eq_none hh] at h0; simp at h0
    rw [h.size] at hlt
    have ho : ops[i.1]? = some ops[i.1] := Array.getElem?_eq_getElem hlt
    have : i.1 ∈ Region.ready .any ops listed := mem_ready.2 ⟨h0, _, ho, fun e he hb => by
      have hei := (cert_spec hc ho).1 e he hb
      refine listed_of (by rw [h.size]; omega) fun hu => ?_
      have hm := (h.mem e.on).1 hu
      simp only [List.map_cons, List.mem_cons, List.mem_map] at hm
      rcases hm with hm | ⟨x, hx, hxe⟩
      · omega
      · have hp := (List.pairwise_cons.1 h.pairs).1 x hx
        unfold okPair at hp
        rw [Bool.and_eq_true] at hp
        have hnd := (Bool.and_eq_true _ _ ▸ hp.1 : _ ∧ _).1
        unfold noDirect at hnd
        simp only [ho, Array.all_eq_true_iff_forall_mem] at hnd
        have := hnd e he
        simp [hb, hxe] at this⟩
    rw [hnil] at this
    exact absurd this (by simp)

theorem go_succ (fuel t : Nat) (listed : Array Bool) : Region.linearise.go .any ops (fuel + 1) t listed [] =
    match (Region.ready .any ops listed)[t % (Region.ready .any ops listed).length]? with
    | some i => i :: Region.linearise.go .any ops fuel (t / (Region.ready .any ops listed).length) (listed.setIfInBounds i true) []
    | none => [] := by
  simp only [Region.linearise.go]
  change (match (Region.ready .any ops listed)[t % (Region.ready .any ops listed).length]? with
      | some i => Region.linearise.go .any ops fuel (t / (Region.ready .any ops listed).length) (listed.setIfInBounds i true) [i]
      | none => [].reverse) = _
  cases (Region.ready .any ops listed)[t % (Region.ready .any ops listed).length]? with
  | none => rfl
  | some i => simp only []; rw [linearise_go_acc]; rfl

theorem pick_some {l : List Nat} (h : l ≠ []) (t : Nat) : ∃ i, l[t % l.length]? = some i ∧ i ∈ l := by
  have hl : 0 < l.length := List.length_pos_iff.2 h
  have hlt : t % l.length < l.length := Nat.mod_lt _ hl
  exact ⟨l[t % l.length], List.getElem?_eq_getElem hlt, List.getElem_mem hlt⟩

theorem split_mem {c : List Item} {j : Nat} (h : j ∈ c.map (·.1)) : ∃ pre i post, c = pre ++ i :: post ∧ i.1 = j := by
  obtain ⟨x, hx, rfl⟩ := List.mem_map.1 h
  obtain ⟨pre, post, rfl⟩ := List.append_of_mem hx
  exact ⟨pre, x, post, rfl, rfl⟩

theorem cover {cert ord E : List Nat} (hc : certB ops cert = true) : ∀ (fuel n t : Nat) (listed : Array Bool) (c : List Item) (cands : List (List Nat)) (R : List Nat),
    Inv ops cert ord listed c → c.length = fuel → R.length ≤ n → (∀ x, x ∈ R ↔ x ∈ E ∧ listed.getD x true = false) → coverB cert n cands R = true →
      (Region.linearise.go .any ops fuel t listed []).filter (E.contains ·) ∈ cands := by
  intro fuel
  induction fuel with
  | zero =>
    intro n t listed c cands R h hl hn hR hcov
    have hc0 : c = [] := List.length_eq_zero_iff.1 hl
    subst hc0
    have hR0 : R = [] := by
      cases R with
      | nil => rfl
      | cons x R =>
        have := ((hR x).1 (by simp)).2
        have := (h.mem x).1 this
        simp at this
    subst hR0
    simp only [Region.linearise.go, List.reverse_nil, List.filter_nil]
    cases n <;> simpa [coverB] using hcov
  | succ fuel ih =>
    intro n t listed c cands R h hl hn hR hcov
    have hne : c ≠ [] := by intro e; subst e; simp at hl
    obtain ⟨i, hi, hmem⟩ := pick_some (h.ready_ne hc hne) t
    rw [go_succ, hi]
    simp only []
    obtain ⟨h0, o, ho, hall⟩ := mem_ready.1 hmem
    obtain ⟨pre, x, post, rfl, rfl⟩ := split_mem ((h.mem i).1 h0)
    have hnext := h.next hc hmem
    have hlen : (pre ++ post).length = fuel := by simp at hl ⊢; omega
    have hlt : x.1 < listed.size := by rw [h.size]; exact (Array.getElem?_eq_some_iff.1 ho).1
    have hself : (listed.setIfInBounds x.1 true).getD x.1 true = true := by
      rw [Array.getD_eq_getD_getElem?, Array.getElem?_setIfInBounds_self_of_lt hlt]; rfl
    by_cases hE : E.contains x.1 = true
    · rw [List.filter_cons_of_pos (by simpa using hE)]
      have hxR : x.1 ∈ R := (hR x.1).2 ⟨by simpa using hE, h0⟩
      cases n with
      | zero =>
        have : R = [] := List.length_eq_zero_iff.1 (by omega)
        subst this; simp at hxR
      | succ n =>
        have hRne : R.isEmpty = false := by cases R <;> simp at hxR ⊢
        unfold coverB at hcov
        rw [hRne] at hcov
        simp only [Bool.false_eq_true, if_false, List.all_eq_true] at hcov
        have hx := hcov x.1 hxR
        rw [Bool.or_eq_true] at hx
        rcases hx with hx | hx
        · exfalso
          rw [List.any_eq_true] at hx
          obtain ⟨f, hf, hfx⟩ := hx
          simp only [Bool.and_eq_true, bne_iff_ne] at hfx
          obtain ⟨e, he, hb, h'⟩ := (cert_spec hc ho).2 f hfx.2
          have hlf := hall e he hb
          have hfl : listed.getD f false = true := by
            rcases h' with rfl | h'
            · exact hlf
            · exact h.down _ hlf _ h'
          have := getD_ne_of ((hR f).1 hf).2
          rw [this] at hfl
          exact absurd hfl (by simp)
        · have hmem' := ih n (t / (Region.ready .any ops listed).length) _ (pre ++ post) _ (R.filter (· != x.1)) hnext hlen (by
            have : (R.filter (· != x.1)).length < R.length := by
              rw [← List.countP_eq_length_filter]
              refine Nat.lt_of_le_of_ne List.countP_le_length fun he => ?_
              have := (List.countP_eq_length).1 he x.1 hxR
              simp at this
            omega) (fun y => by
              rw [List.mem_filter, hR y]
              by_cases hy : x.1 = y
              · subst hy; simp [hself]
              · rw [getD_set_ne true hy]
                simp [Ne.symm hy]) hx
          rw [List.mem_filterMap] at hmem'
          obtain ⟨l, hl1, hl2⟩ := hmem'
          cases l with
          | nil => simp at hl2
          | cons y ys =>
            simp only [] at hl2
            by_cases hyx : y = x.1
            · rw [if_pos hyx] at hl2
              cases hl2
              rw [← hyx]
              rw [hyx] at hl1 ⊢
              exact hl1
            · rw [if_neg hyx] at hl2; cases hl2
    · rw [List.filter_cons_of_neg (by simpa using hE)]
      refine ih n (t / (Region.ready .any ops listed).length) _ (pre ++ post) cands R hnext hlen hn (fun y => ?_) hcov
      rw [hR y]
      by_cases hy : x.1 = y
      · subst hy
        constructor
        · rintro ⟨h1, _⟩; exact absurd (by simpa using h1) hE
        · rintro ⟨h1, _⟩; exact absurd (by simpa using h1) hE
      · rw [getD_set_ne true hy]

theorem effOf_append (a b : List Item) : effOf (a ++ b) = effOf a ++ effOf b := by simp [effOf]

theorem late_mem {cert ord done : List Nat} {c : List Item} {s i : Nat} (ho : ord = done ++ effOf c) (hn : ord.Nodup) (hs : s ∈ effOf c) (h : late cert ord s i = true) : ∃ e ∈ effOf c, waits cert i e = true := by
  unfold late at h
  rw [List.any_eq_true] at h
  obtain ⟨e, he, hw⟩ := h
  refine ⟨e, ?_, hw⟩
  have h1 : ∀ (d : List Nat), (∀ x ∈ d, x ≠ s) → ((d ++ effOf c).dropWhile (· != s)) = (effOf c).dropWhile (· != s) := by
    intro d
    induction d with
    | nil => intro _; rfl
    | cons x d ih =>
      intro hd
      have hx : (fun y => y != s) x = true := by simpa using hd x (by simp)
      rw [List.cons_append, List.dropWhile_cons_of_pos (p := fun y => y != s) hx]
      exact ih fun y hy => hd y (by simp [hy])
  rw [ho, h1 done (fun x hx hxs => by
    rw [ho] at hn
    exact (List.nodup_append.1 hn).2.2 x hx s hs hxs)] at he
  exact (List.dropWhile_suffix _).subset (List.mem_of_mem_tail he)

theorem walk {cert ord E : List Nat} (hc : certB ops cert = true) (hsel : ∀ (j : Nat) (o : Oper) cs b, ops[j]? = some o → o.op ≠ .select cs b) (hQ : InsP Q) :
    ∀ (fuel t : Nat) (listed : Array Bool) (c : List Item) (a : Act) (w : World), Inv ops cert ord listed c → c.length = fuel → effB E c = true → ord.Nodup → (∃ done, ord = done ++ effOf c) →
      (Region.linearise.go .any ops fuel t listed []).filter (E.contains ·) = effOf c → wpD P ops Q c a w → wpOps P ops Q (Region.linearise.go .any ops fuel t listed []) a w := by
  intro fuel
  induction fuel with
  | zero =>
    intro t listed c a w h hl hE hordn hord heq hw
    have hc0 : c = [] := List.length_eq_zero_iff.1 hl
    subst hc0
    unfold wpD at hw
    simpa [Region.linearise.go, wpOps] using hw
  | succ fuel ih =>
    intro t listed c a w h hl hE hordn hord heq hw
    have hne : c ≠ [] := by intro e; subst e; simp at hl
    obtain ⟨i, hi, hmem⟩ := pick_some (h.ready_ne hc hne) t
    rw [go_succ, hi] at heq ⊢
    simp only [] at heq ⊢
    obtain ⟨h0, o, ho, hall⟩ := mem_ready.1 hmem
    obtain ⟨pre, x, post, rfl, rfl⟩ := split_mem ((h.mem i).1 h0)
    have hnext := h.next hc hmem
    have hlen : (pre ++ post).length = fuel := by simp at hl ⊢; omega
    have hEx : decide (x.2.1 = .eff) = E.contains x.1 := by
      unfold effB at hE
      rw [List.all_eq_true] at hE
      have := hE x (by simp)
      simpa using this
    have hE' : effB E (pre ++ post) = true := by
      unfold effB at hE ⊢
      rw [List.all_eq_true] at hE ⊢
      intro y hy
      exact hE y (by rcases List.mem_append.1 hy with hh | hh <;> simp [hh])
    have hpre : ∀ s ∈ pre, s.2.1 = .eff → x.2.1 ≠ .eff := by
      intro s hs hse hxe
      rw [List.filter_cons_of_pos (by rw [← hEx]; simp [hxe]), effOf_append] at heq
      have hsx : s.1 ≠ x.1 := by
        have hnd := h.nodup
        simp only [List.map_append, List.map_cons] at hnd
        intro he
        exact (nodup_mid hnd).1 (he ▸ List.mem_map.2 ⟨s, hs, rfl⟩)
      have hne0 : effOf pre ≠ [] := by
        intro he
        have : s.1 ∈ effOf pre := List.mem_map.2 ⟨s, List.mem_filter.2 ⟨hs, by simp [hse]⟩, rfl⟩
        rw [he] at this
        simp at this
      cases hp : effOf pre with
      | nil => exact hne0 hp
      | cons y ys =>
        rw [hp, List.cons_append] at heq
        have hyx : x.1 = y := (List.cons.inj heq).1
        have hy : y ∈ effOf pre := by rw [hp]; simp
        obtain ⟨z, hz, hzy⟩ := List.mem_map.1 hy
        have hzp := (List.mem_filter.1 hz).1
        have hnd := h.nodup
        simp only [List.map_append, List.map_cons] at hnd
        exact (nodup_mid hnd).1 (by rw [hyx, ← hzy]; exact List.mem_map.2 ⟨z, hzp, rfl⟩)
    have hordp : pre.Pairwise fun s x => waits cert s.1 x.1 = false := by
      refine (List.pairwise_append.1 h.pairs).1.imp ?_
      intro s x hp
      unfold okPair at hp
      simp only [Bool.and_eq_true, Bool.not_eq_true'] at hp
      exact hp.1.2
    have hcross : ∀ s ∈ pre, crossB ops cert s x = true := by
      intro s hs
      have hp := (List.pairwise_append.1 h.pairs).2.2 s hs x (by simp)
      unfold okPair at hp
      simp only [Bool.and_eq_true, Bool.or_eq_true, decide_eq_true_eq] at hp
      rcases hp.2 with ((hp | hp) | hp) | hp
      · exfalso
        obtain ⟨e, he, hb, h'⟩ := (cert_spec hc ho).2 s.1 hp
        have hlf := hall e he hb
        have hfl : listed.getD s.1 false = true := by
          rcases h' with h' | h'
          · rw [← h']; exact hlf
          · exact h.down _ hlf _ h'
        have := getD_ne_of ((h.mem s.1).2 (by simp; exact .inl ⟨_, _, hs⟩))
        rw [this] at hfl
        exact absurd hfl (by simp)
      · exact hp
      · exact absurd hp.2 (hpre s hs hp.1)
      · exfalso
        obtain ⟨done, hdone⟩ := hord
        have hse : s.1 ∈ effOf (pre ++ x :: post) := List.mem_map.2 ⟨s, List.mem_filter.2 ⟨by simp [hs], by simp [hp.1]⟩, rfl⟩
        obtain ⟨f, hf, hfw⟩ := late_mem hdone hordn hse hp.2
        obtain ⟨y, hy, rfl⟩ := List.mem_map.1 hf
        obtain ⟨e, he, hb, h'⟩ := (cert_spec hc ho).2 y.1 hfw
        have hlf := hall e he hb
        have hfl : listed.getD y.1 false = true := by
          rcases h' with h' | h'
          · rw [← h']; exact hlf
          · exact h.down _ hlf _ h'
        have := getD_ne_of ((h.mem y.1).2 (List.mem_map.2 ⟨y, (List.mem_filter.1 hy).1, rfl⟩))
        rw [this] at hfl
        exact absurd hfl (by simp)
    have hndpre : (pre.map (·.1)).Nodup := by
      have := h.nodup
      rw [List.map_append] at this
      exact (List.nodup_append.1 this).1
    have hpull := pull ho hsel hQ pre [] a w (by simp) (by simp) hordp hndpre hcross hw
    rw [wpOps_cons]
    refine wpOp_of_stepD ho (stepD_mono (fun a' w' hx => ?_) hpull)
    have hord' : ∃ done, ord = done ++ effOf (pre ++ post) := by
      obtain ⟨done, hdone⟩ := hord
      by_cases hxe : x.2.1 = .eff
      · have hpe : effOf pre = [] := by
          cases hp : effOf pre with
          | nil => rfl
          | cons y ys =>
            have hy : y ∈ effOf pre := by rw [hp]; simp
            obtain ⟨z, hz, hzy⟩ := List.mem_map.1 hy
            have hz' := List.mem_filter.1 hz
            exact absurd hxe (hpre z hz'.1 (by simpa using hz'.2))
        refine ⟨done ++ [x.1], ?_⟩
        rw [hdone, effOf_append, effOf_append, hpe]
        simp [effOf, hxe]
      · refine ⟨done, ?_⟩
        rw [hdone, effOf_append, effOf_append]
        simp [effOf, hxe]
    refine ih _ _ (pre ++ post) a' w' hnext hlen hE' hordn hord' ?_ hx.2
    by_cases hxE : E.contains x.1 = true
    · have hxe : x.2.1 = .eff := by rw [hxE] at hEx; simpa using hEx
      rw [List.filter_cons_of_pos (by simpa using hxE), effOf_append] at heq
      have hpe : effOf pre = [] := by
        cases hp : effOf pre with
        | nil => rfl
        | cons y ys =>
          have hy : y ∈ effOf pre := by rw [hp]; simp
          obtain ⟨z, hz, hzy⟩ := List.mem_map.1 hy
          have hz' := List.mem_filter.1 hz
          exact absurd hxe (hpre z hz'.1 (by simpa using hz'.2))
      rw [hpe, List.nil_append] at heq
      have hcons : effOf (x :: post) = x.1 :: effOf post := by simp [effOf, hxe]
      rw [hcons] at heq
      rw [effOf_append, hpe, List.nil_append]
      exact (List.cons.inj heq).2
    · have hxe : ¬ x.2.1 = .eff := by
        intro hh
        have : E.contains x.1 = true := by rw [← hEx]; simp [hh]
        exact hxE this
      rw [List.filter_cons_of_neg (by simpa using hxE), effOf_append] at heq
      rw [heq, effOf_append]
      simp [effOf, hxe]

theorem wp_draw {id : Nat} {a : Act} {w : World} (cert E : List Nat) (cands : List (List Item)) (hm : P.follows .mixedOrders = true) (hok : okDraw ops cert E cands = true) (hQ : InsP Q)
    (h : ∀ c ∈ cands, wpD P ops Q c a w.drew) : (Code.region id ops true).wp P Q a w := by
  unfold okDraw at hok
  simp only [Bool.and_eq_true, List.all_eq_true] at hok
  obtain ⟨⟨⟨⟨⟨hne, hrange⟩, hs⟩, hc⟩, hcs⟩, hcov⟩ := hok
  have hsel : ∀ (j : Nat) (o : Oper) cs b, ops[j]? = some o → o.op ≠ .select cs b := by
    intro j o cs b hj hsel
    unfold selB at hs
    rw [Array.all_eq_true_iff_forall_mem] at hs
    have := hs o (Array.mem_of_getElem? hj)
    rw [hsel] at this
    simp at this
  have hinv : ∀ c ∈ cands, Inv ops cert (effOf c) (Array.replicate ops.size false) c ∧ c.length = ops.size ∧ effB E c = true := by
    intro c hcm
    obtain ⟨⟨hp, he⟩, hpr⟩ := hcs c hcm
    unfold permB at hp
    simp only [Bool.and_eq_true, List.all_eq_true, decide_eq_true_eq, List.mem_range, List.contains_iff_mem] at hp
    obtain ⟨⟨⟨hnd, hmem⟩, hall⟩, hlen⟩ := hp
    refine ⟨⟨by simp, fun i => ?_, hnd, ?_, fun j hj => ?_⟩, hlen, he⟩
    · rw [Array.getD_eq_getD_getElem?]
      by_cases hi : i < ops.size
      · have hmi := hmem i hi
        simp only [Array.getElem?_replicate, hi, if_true, Option.getD_some, true_iff]
        exact hmi
      · simp only [Array.getElem?_replicate, hi, if_false, Option.getD_none]
        constructor
        · intro h; exact absurd h (by simp)
        · intro h
          obtain ⟨x, hx, rfl⟩ := List.mem_map.1 h
          exact absurd (hall x hx) hi
    · clear he hnd hmem hall hlen
      generalize effOf c = oo at hpr ⊢
      induction c with
      | nil => exact List.Pairwise.nil
      | cons x r ihr =>
        unfold pairsB at hpr
        rw [Bool.and_eq_true, List.all_eq_true] at hpr
        exact List.Pairwise.cons hpr.1 (by
          clear hcm ihr
          have hr := hpr.2
          clear hpr
          induction r with
          | nil => exact List.Pairwise.nil
          | cons y r ih2 =>
            unfold pairsB at hr
            rw [Bool.and_eq_true, List.all_eq_true] at hr
            exact List.Pairwise.cons hr.1 (ih2 hr.2))
    · exfalso
      rw [Array.getD_eq_getD_getElem?, Array.getElem?_replicate] at hj
      split at hj <;> simp at hj
  refine wp_region_draw fun t => ?_
  simp only [Region.schedule, hm, Bool.true_or, if_true]
  change wpOps P ops Q (Region.linearise.go .any ops ops.size t (Array.replicate ops.size false) []) a w.drew
  cases hcands : cands with
  | nil => rw [hcands] at hne; simp at hne
  | cons c0 cr =>
    have h0 := hinv c0 (by rw [hcands]; simp)
    have hcv := cover hc ops.size E.length t _ c0 (cands.map effOf) E h0.1 h0.2.1 (Nat.le_refl _) (fun x => by
      constructor
      · intro hx
        have hx' : x < ops.size := by
          unfold effRangeB at hrange
          rw [List.all_eq_true] at hrange
          simpa using hrange x hx
        exact ⟨hx, by rw [Array.getD_eq_getD_getElem?, Array.getElem?_replicate, if_pos hx']; rfl⟩
      · exact fun hx => hx.1) hcov
    obtain ⟨c, hcm, hce⟩ := List.mem_map.1 hcv
    have hci := hinv c hcm
    exact walk hc hsel hQ ops.size t _ c a _ hci.1 hci.2.1 hci.2.2 (hci.1.nodup.sublist (List.filter_sublist.map _)) ⟨[], rfl⟩ hce.symm (h c hcm)

section steps
variable {a : Act} {w : World} {o : Oper} {r : List Item} {i : Nat} {c : List Nat}
theorem wpD_nil (h : Q .normal a w) : wpD P ops Q [] a w := h
theorem wpD_calm (hi : ops[i]? = some o) (hg : o.guard = none)
    (h : ∀ K : Act → World → Prop, (∀ a w, wpD P ops Q r a w → K a w) → ∃ v, (∀ w', (execOp a.eval o).run P w' = .ok (.value v) w') ∧ K (a.put o.dst v) w) : wpD P ops Q ((i, .calm, []) :: r) a w := by
  refine ⟨o, hi, (stepD_calm (by simp [Region.wanted, hg])).2 (h (fun a w => (∀ j ∈ ([] : List Nat), Steady P ops j a w) ∧ wpD P ops Q r a w) fun a w hx => ⟨by simp, hx⟩)⟩
theorem wpD_look (hi : ops[i]? = some o) (hg : o.guard = none)
    (h : ∀ K : Act → World → Prop, (∀ a w, wpD P ops Q r a w → K a w) → ∃ v, (execOp a.eval o).run P w = .ok (.value v) w ∧ K (a.put o.dst v) w) : wpD P ops Q ((i, .look, []) :: r) a w := by
  refine ⟨o, hi, (stepD_look (by simp [Region.wanted, hg])).2 (h (fun a w => (∀ j ∈ ([] : List Nat), Steady P ops j a w) ∧ wpD P ops Q r a w) fun a w hx => ⟨by simp, hx⟩)⟩
theorem wpD_eff (hi : ops[i]? = some o) (hg : o.guard = none)
    (h : ∀ K : Act → World → Prop, (∀ a w, wpD P ops Q r a w → K a w) → o.wp P a w K Q) : wpD P ops Q ((i, .eff, []) :: r) a w := by
  refine ⟨o, hi, ?_⟩
  unfold stepD
  rw [if_pos (by simp [Region.wanted, hg])]
  exact h (fun a w => (∀ j ∈ ([] : List Nat), Steady P ops j a w) ∧ wpD P ops Q r a w) fun a w hx => ⟨by simp, hx⟩
theorem wpD_effc (hi : ops[i]? = some o) (hg : o.guard = none)
    (h : ∀ K : Act → World → Prop, (∀ a w, (∀ j ∈ c, Steady P ops j a w) → wpD P ops Q r a w → K a w) → o.wp P a w K Q) : wpD P ops Q ((i, .eff, c) :: r) a w := by
  refine ⟨o, hi, ?_⟩
  unfold stepD
  rw [if_pos (by simp [Region.wanted, hg])]
  exact h (fun a w => (∀ j ∈ c, Steady P ops j a w) ∧ wpD P ops Q r a w) fun a w hx hy => ⟨hx, hy⟩
theorem wpD_calmg (hi : ops[i]? = some o) (hw : Region.wanted o (yielded ops a.tmps) = true)
    (h : ∀ K : Act → World → Prop, (∀ a w, wpD P ops Q r a w → K a w) → ∃ v, (∀ w', (execOp a.eval o).run P w' = .ok (.value v) w') ∧ K (a.put o.dst v) w) : wpD P ops Q ((i, .calm, []) :: r) a w := by
  refine ⟨o, hi, (stepD_calm hw).2 (h (fun a w => (∀ j ∈ ([] : List Nat), Steady P ops j a w) ∧ wpD P ops Q r a w) fun a w hx => ⟨by simp, hx⟩)⟩
theorem wpD_lookg (hi : ops[i]? = some o) (hw : Region.wanted o (yielded ops a.tmps) = true)
    (h : ∀ K : Act → World → Prop, (∀ a w, wpD P ops Q r a w → K a w) → ∃ v, (execOp a.eval o).run P w = .ok (.value v) w ∧ K (a.put o.dst v) w) : wpD P ops Q ((i, .look, []) :: r) a w := by
  refine ⟨o, hi, (stepD_look hw).2 (h (fun a w => (∀ j ∈ ([] : List Nat), Steady P ops j a w) ∧ wpD P ops Q r a w) fun a w hx => ⟨by simp, hx⟩)⟩
theorem wpD_effg (hi : ops[i]? = some o) (hw : Region.wanted o (yielded ops a.tmps) = true)
    (h : ∀ K : Act → World → Prop, (∀ a w, wpD P ops Q r a w → K a w) → o.wp P a w K Q) : wpD P ops Q ((i, .eff, []) :: r) a w := by
  refine ⟨o, hi, ?_⟩
  unfold stepD
  rw [if_pos hw]
  exact h (fun a w => (∀ j ∈ ([] : List Nat), Steady P ops j a w) ∧ wpD P ops Q r a w) fun a w hx => ⟨by simp, hx⟩
theorem wpD_skip {k : Kind} (hi : ops[i]? = some o) (hw : Region.wanted o (yielded ops a.tmps) = false)
    (h : ∀ K : Act → World → Prop, (∀ a w, wpD P ops Q r a w → K a w) → K (a.put o.dst undef) w) : wpD P ops Q ((i, k, []) :: r) a w := by
  refine ⟨o, hi, (stepD_off (by rw [hw]; simp)).2 (h (fun a w => (∀ j ∈ ([] : List Nat), Steady P ops j a w) ∧ wpD P ops Q r a w) fun a w hx => ⟨by simp, hx⟩)⟩
end steps
end
end Go.Draw
