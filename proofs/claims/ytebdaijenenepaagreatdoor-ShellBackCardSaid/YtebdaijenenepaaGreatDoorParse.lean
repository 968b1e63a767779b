/- Contracts: shell.Bytes and the reference's Bytes read the same of every word. -/
import Derived.Test.YtebdaijenenepaaGreatDoorHex
set_option maxRecDepth 100000
namespace Go.Proofs
open Go Go.RowKit

def figBad (a b : UInt8) : Bool := decide (figV a < 0) || decide (figV b < 0)
def byteOf (a b : UInt8) : UInt8 := (16 * figV a + figV b).toNat.toUInt8
def pairs : List UInt8 → Option (List UInt8)
  | [] => some []
  | [_] => none
  | a :: b :: r => if figBad a b then none else (pairs r).map (byteOf a b :: ·)
def parseB (l : List UInt8) : Option (List UInt8) := if l = [45] then some [] else if l = [] then none else pairs l

theorem figV_le (a : UInt8) : figV a ≤ 15 := by
  unfold figV
  split
  · omega
  · split <;> omega
theorem pairs_append {xs : List UInt8} {acc : List UInt8} (h : pairs xs = some acc) (ys : List UInt8) : pairs (xs ++ ys) = (pairs ys).map (acc ++ ·) := by
  induction xs using pairs.induct generalizing acc with
  | case1 => simp [pairs] at h; subst h; simp
  | case2 x => simp [pairs] at h
  | case3 a b r hb => simp [pairs, hb] at h
  | case4 a b r hb ih =>
    simp [pairs, hb] at h
    obtain ⟨acc', h1, rfl⟩ := h
    have := ih h1
    simp [pairs, hb, this]
    rfl
theorem pairs_good {xs : List UInt8} {acc : List UInt8} {a b : UInt8} (h : pairs xs = some acc) (hb : figBad a b = false) : pairs (xs ++ [a, b]) = some (acc ++ [byteOf a b]) := by
  rw [pairs_append h]; simp [pairs, hb]
theorem pairs_stop {xs : List UInt8} {acc : List UInt8} {a b : UInt8} {r : List UInt8} (h : pairs xs = some acc) (hb : figBad a b = true) : pairs (xs ++ a :: b :: r) = none := by
  rw [pairs_append h]; simp [pairs, hb]
theorem pairs_even {xs acc : List UInt8} (h : pairs xs = some acc) : xs.length = 2 * acc.length := by
  induction xs using pairs.induct generalizing acc with
  | case1 => simp [pairs] at h; subst h; rfl
  | case2 x => simp [pairs] at h
  | case3 a b r hb => simp [pairs, hb] at h
  | case4 a b r hb ih =>
    simp [pairs, hb] at h
    obtain ⟨acc', h1, rfl⟩ := h
    have := ih h1
    simp; omega
theorem pairs_odd : ∀ {l : List UInt8}, l.length % 2 = 1 → pairs l = none := by
  intro l hl
  cases h : pairs l with
  | none => rfl
  | some acc => have := pairs_even h; omega
theorem parse_odd {l : List UInt8} (hl : l.length % 2 = 1) (hne : l ≠ [45]) : parseB l = none := by
  unfold parseB
  rw [if_neg hne]
  split
  · rfl
  · exact pairs_odd hl
theorem take_two (l : List UInt8) (j : Nat) (h : j + 1 < l.length) : l.take (j + 2) = l.take j ++ [l[j], l[j + 1]] := by
  rw [List.take_succ_eq_append_getElem h, List.take_succ_eq_append_getElem (by omega), List.append_assoc]; rfl
theorem drop_two (l : List UInt8) (j : Nat) (h : j + 1 < l.length) : l = l.take j ++ l[j] :: l[j + 1] :: l.drop (j + 2) := by
  conv => lhs; rw [← List.take_append_drop j l]
  rw [List.drop_eq_getElem_cons (by omega), List.drop_eq_getElem_cons (by omega)]
theorem byteOf_val {a b : UInt8} (h : figBad a b = false) : ((byteOf a b).toNat : Int) = 16 * figV a + figV b := by
  have h1 := figV_le a
  have h2 := figV_le b
  simp [figBad] at h
  unfold byteOf
  have : (16 * figV a + figV b).toNat < 256 := by omega
  rw [UInt8.toNat_ofNat_of_lt' (by simpa using this)]
  omega

theorem fig_index (c : UInt8) : Lib.indexByte [48, 49, 50, 51, 52, 53, 54, 55, 56, 57, 97, 98, 99, 100, 101, 102] c = figV c := by
  have key : ∀ n : Fin 256, Lib.indexByte [48, 49, 50, 51, 52, 53, 54, 55, 56, 57, 97, 98, 99, 100, 101, 102] (UInt8.ofFin n) = figV (UInt8.ofFin n) := by decide +kernel
  exact key c.toFin

theorem get_data (s : ByteArray) (k : Nat) (h : k < s.size) : s[k] = s.data.toList[k]'(by simpa using h) := rfl

def PairsPost (s : ByteArray) (W : World) (e : Ending) (w' : World) : Prop :=
  (∃ v l, e = .returned (.tuple #[v, .bool true]) ∧ pairs s.data.toList = some l ∧ BytesAt w' v l ∧ Below W.heap.size W w') ∨
    (e = .returned (.tuple #[.slice none 0 0, .bool false]) ∧ pairs s.data.toList = none ∧ Below W.heap.size W w')

set_option maxHeartbeats 2000000 in
theorem refbytes_pairs (s : ByteArray) (W : World) (hs : s.size ≤ 140737488355) (he : s.size % 2 = 0) (h0 : s.data.toList ≠ []) (h45 : s.data.toList ≠ [45]) :
    Calls Tryz.prog 9 #[.string s] W (PairsPost s W) := by
  obtain ⟨i0, hi, hz0, hz1, hz2⟩ := info_parts Tryz.info5
  have e1 : (s.toList == [45]) = false := by rw [ByteArray.toList_eq]; simpa using h45
  have e2 : ((s.size : Int) == 0) = false := by
    rw [beq_eq_false_iff_ne]
    intro h
    have : s.data.toList.length = 0 := by simpa using h
    exact h0 (List.length_eq_zero_iff.1 this)
  have e3 : ((s.size : Int) % 2 == 1) = false := by rw [beq_eq_false_iff_ne]; omega
  have hsl : s.data.toList.length = s.size := by simp
  go_enter Tryz.func9, Tryz.ntmps9
  go_wp2
  go_loopw [4, 5] (fun v i wr => ∃ (j : Nat) (acc : List UInt8), j ≤ s.size ∧ i = .int .i64 (j : Int) ∧ pairs (s.data.toList.take j) = some acc ∧
      wr.ownsRow W.heap.size 5 1 v acc.length (bvs acc) ∧ Below W.heap.size W wr) (fun v i _ => s.size - (intOf i).toNat)
  case atStart => exact ⟨0, [], Nat.zero_le _, rfl, rfl, World.ownsRow_nil _ _ _ _, Below.refl _ _⟩
  case round =>
    obtain ⟨j, acc, hk, rfl, hp, hown, hbel⟩ := hrel
    have hj := pairs_even hp
    rw [List.length_take, hsl, Nat.min_eq_left hk] at hj
    by_cases hlt : j < s.size
    · have hlt1 : j + 1 < s.size := by omega
      have hj' : (j : Int) + 1 < (s.size : Int) := by omega
      have hacc : acc.length + 1 ≤ 140737488355 := by omega
      have ht : ((j : Int) + 1).toNat = j + 1 := by omega
      have hj0 : (0 : Int) ≤ (j : Int) + 1 := by omega
      have hl2 : j + 1 < s.data.toList.length := by omega
      have htake := take_two s.data.toList j hl2
      have hdrop := drop_two s.data.toList j hl2
      have HT := Lib.hid htake
      have HD := Lib.hid hdrop
      have HP := Lib.hid hp
      clear htake hdrop hp hj
      go_wp2
      refine Draw.wp_draw [0,0,3,7,0,0,32,112,255,511,1023] [3,8] [[(0, .calm, []), (1, .calm, []), (2, .calm, []), (4, .calm, []), (5, .calm, []), (6, .calm, []), (7, .calm, []), (3, .eff, []), (8, .eff, []), (9, .calm, []), (10, .calm, [])]] (by kernel_rfl) (by kernel_rfl) (by repeat (first | exact Draw.insP_body | refine Draw.insP_then ?_ | refine Draw.insP_block ?_)) ?_
      simp only [List.forall_mem_singleton]
      repeat (first
        | (refine Draw.wpD_calm rfl rfl (fun K hK => ?_); go_simp; (try go_bits); (try go_simp); refine hK _ _ ?_; clear hK K)
        | (refine Draw.wpD_look rfl rfl (fun K hK => ?_); go_simp; (try go_bits); (try go_simp); refine hK _ _ ?_; clear hK K))
      refine Draw.wpD_eff rfl rfl (fun K hK => ?_)
      go_simp
      refine (figure_any _ _).mono ?_
      rintro e w1 ⟨rfl, rfl⟩
      refine hK _ _ ?_
      clear hK K
      refine Draw.wpD_eff rfl rfl (fun K hK => ?_)
      go_simp
      refine (figure_any _ _).mono ?_
      rintro e w1 ⟨rfl, rfl⟩
      refine hK _ _ ?_
      clear hK K
      repeat (first
        | (refine Draw.wpD_calm rfl rfl (fun K hK => ?_); go_simp; (try go_bits); (try go_simp); refine hK _ _ ?_; clear hK K)
        | (refine Draw.wpD_look rfl rfl (fun K hK => ?_); go_simp; (try go_bits); (try go_simp); refine hK _ _ ?_; clear hK K))
      refine Draw.wpD_nil ?_
      by_cases hbad : figBad s[j] s[j + 1] = true
      · have hnone : pairs s.data.toList = none := by rw [HD.out]; exact pairs_stop HP.out hbad
        have HN := Lib.hid hnone
        clear hnone
        by_cases hb1 : figV s[j] < 0
        · go_wp2
          go_ret2
          exact .inr ⟨rfl, HN.out, hbel.drew⟩
        · have hb2 : figV s[j + 1] < 0 := by simp [figBad] at hbad; omega
          have hb1' : 0 ≤ figV s[j] := by omega
          go_wp2
          go_ret2
          exact .inr ⟨rfl, HN.out, hbel.drew⟩
      · have hbad' : figBad s[j] s[j + 1] = false := by simpa using hbad
        have hgood := pairs_good HP.out hbad'
        have HG := Lib.hid hgood
        have hv := byteOf_val hbad'
        have HV := Lib.hid hv
        have hb : 0 ≤ figV s[j] ∧ 0 ≤ figV s[j + 1] := by simp [figBad] at hbad'; omega
        obtain ⟨hb1, hb2⟩ := hb
        have hb3 := figV_le s[j]
        have hb4 := figV_le s[j + 1]
        clear hgood hv hbad hbad'
        have hown1 : wr.drew.ownsRow W.heap.size 5 1 u4 acc.length (bvs acc) := hown
        go_wp2_with (at_builtin; refine wpList_append_own _ rfl _ _ 22 rfl W.heap.size 5 i0 (.int .u8 0) 1 1 Tryz.underlying22 hi hz0 hz1 hz2 rfl (by decide) _ _ _ rfl (hown1.alloc _) ⟨wr.drew.heap.size, 0, none⟩ 1 1 [.int .u8 (16 * figV s[j] + figV s[j + 1])] rfl rfl ?c1 ?c2 ?c3 ?c4 ?c5 ?_)
        case c1 =>
          intro q u hq
          match q, hq with
          | 0, hq => simp at hq; subst hq; simp [Addr.add]
        case c2 => intro u hu; simp at hu; subst hu; rfl
        case c3 => unfold maxLen; omega
        case c4 => omega
        case c5 => have := hbel.size; simp; omega
        intro v' w1 hown' hgrow _
        have hlow := fun q hq => (hown.lt q hq).1
        clear hown hown1
        go_wp2
        go_roundw
        case rel =>
          refine ⟨j + 2, acc ++ [byteOf s[j] s[j + 1]], by omega, by go_num, by rw [HT.out]; exact HG.out, ?_, (hbel.drew.alloc (by have := hbel.size; simp; omega) _).grown hgrow (by have := hbel.size; simp; omega) hlow⟩
          rw [bvs_append, List.length_append]
          have e : bvs [byteOf s[j] s[j + 1]] = [.int .u8 (16 * figV s[j] + figV s[j + 1])] := by simp [bvs, HV.out]
          rw [e]
          exact hown'
        case measure => simp [intOf]; omega
    · have hjs : s.data.toList.take j = s.data.toList := List.take_of_length_le (by omega)
      rw [hjs] at hp
      have HP := Lib.hid hp
      clear hp hjs hj
      go_wp2
      go_ret2
      exact .inl ⟨_, acc, rfl, HP.out, BytesAt.of_owns hown, hbel⟩
theorem index_fig (c : UInt8) (w : World) : Calls Tryz.prog 24 #[.string ⟨#[48, 49, 50, 51, 52, 53, 54, 55, 56, 57, 97, 98, 99, 100, 101, 102]⟩, .int .u8 c.toNat] w fun e w' => e = .returned (.int .i64 (figV c)) ∧ w = w' := by
  refine (Tryz.strings_IndexByte _ _ _).mono ?_
  rintro e w' ⟨rfl, rfl⟩
  refine ⟨?_, rfl⟩
  have : (c.toNat : Int).toNat.toUInt8 = c := by simp
  rw [this, ← fig_index c]

set_option maxHeartbeats 2000000 in
theorem bytes_pairs (s : ByteArray) (W : World) (hs : s.size ≤ 140737488355) (he : s.size % 2 = 0) (h0 : s.data.toList ≠ []) (h45 : s.data.toList ≠ [45]) :
    Calls Tryz.prog 8 #[.string s] W (PairsPost s W) := by
  obtain ⟨i0, hi, hz0, hz1, hz2⟩ := info_parts Tryz.info5
  have e1 : (s.toList == [45]) = false := by rw [ByteArray.toList_eq]; simpa using h45
  have e2 : s.toList.isEmpty = false := by rw [ByteArray.toList_eq, List.isEmpty_eq_false_iff]; exact h0
  have e3 : (((s.size : Int) % 2) != 0) = false := by rw [bne_eq_false_iff_eq]; omega
  have hsl : s.data.toList.length = s.size := by simp
  go_enter Tryz.func8, Tryz.ntmps8
  go_wp2
  go_loopw [4, 5] (fun v i wr => ∃ (j : Nat) (acc : List UInt8), j ≤ s.size ∧ i = .int .i64 (j : Int) ∧ pairs (s.data.toList.take j) = some acc ∧
      wr.ownsRow W.heap.size 5 1 v acc.length (bvs acc) ∧ Below W.heap.size W wr) (fun v i _ => s.size - (intOf i).toNat)
  case atStart => exact ⟨0, [], Nat.zero_le _, rfl, rfl, World.ownsRow_nil _ _ _ _, Below.refl _ _⟩
  case round =>
    obtain ⟨j, acc, hk, rfl, hp, hown, hbel⟩ := hrel
    have hj := pairs_even hp
    rw [List.length_take, hsl, Nat.min_eq_left hk] at hj
    by_cases hlt : j < s.size
    · have hlt1 : j + 1 < s.size := by omega
      have hj' : (j : Int) + 1 < (s.size : Int) := by omega
      have hacc : acc.length + 1 ≤ 140737488355 := by omega
      have ht : ((j : Int) + 1).toNat = j + 1 := by omega
      have hj0 : (0 : Int) ≤ (j : Int) + 1 := by omega
      have hl2 : j + 1 < s.data.toList.length := by omega
      have htake := take_two s.data.toList j hl2
      have hdrop := drop_two s.data.toList j hl2
      have HT := Lib.hid htake
      have HD := Lib.hid hdrop
      have HP := Lib.hid hp
      clear htake hdrop hp hj
      go_wp2
      refine Draw.wp_draw [0,0,3,7,0,0,32,112,255,511,1023] [3,8] [[(0, .calm, []), (1, .calm, []), (2, .calm, []), (4, .calm, []), (5, .calm, []), (6, .calm, []), (7, .calm, []), (3, .eff, []), (8, .eff, []), (9, .calm, []), (10, .calm, [])]] (by kernel_rfl) (by kernel_rfl) (by repeat (first | exact Draw.insP_body | refine Draw.insP_then ?_ | refine Draw.insP_block ?_)) ?_
      simp only [List.forall_mem_singleton]
      repeat (first
        | (refine Draw.wpD_calm rfl rfl (fun K hK => ?_); go_simp; (try go_bits); (try go_simp); refine hK _ _ ?_; clear hK K)
        | (refine Draw.wpD_look rfl rfl (fun K hK => ?_); go_simp; (try go_bits); (try go_simp); refine hK _ _ ?_; clear hK K))
      refine Draw.wpD_eff rfl rfl (fun K hK => ?_)
      go_simp
      refine (index_fig _ _).mono ?_
      rintro e w1 ⟨rfl, rfl⟩
      refine hK _ _ ?_
      clear hK K
      refine Draw.wpD_eff rfl rfl (fun K hK => ?_)
      go_simp
      refine (index_fig _ _).mono ?_
      rintro e w1 ⟨rfl, rfl⟩
      refine hK _ _ ?_
      clear hK K
      repeat (first
        | (refine Draw.wpD_calm rfl rfl (fun K hK => ?_); go_simp; (try go_bits); (try go_simp); refine hK _ _ ?_; clear hK K)
        | (refine Draw.wpD_look rfl rfl (fun K hK => ?_); go_simp; (try go_bits); (try go_simp); refine hK _ _ ?_; clear hK K))
      refine Draw.wpD_nil ?_
      by_cases hbad : figBad s[j] s[j + 1] = true
      · have hnone : pairs s.data.toList = none := by rw [HD.out]; exact pairs_stop HP.out hbad
        have HN := Lib.hid hnone
        clear hnone
        by_cases hb1 : figV s[j] < 0
        · go_wp2
          go_ret2
          exact .inr ⟨rfl, HN.out, hbel.drew⟩
        · have hb2 : figV s[j + 1] < 0 := by simp [figBad] at hbad; omega
          have hb1' : 0 ≤ figV s[j] := by omega
          go_wp2
          go_ret2
          exact .inr ⟨rfl, HN.out, hbel.drew⟩
      · have hbad' : figBad s[j] s[j + 1] = false := by simpa using hbad
        have hgood := pairs_good HP.out hbad'
        have HG := Lib.hid hgood
        have hv := byteOf_val hbad'
        have HV := Lib.hid hv
        have hb : 0 ≤ figV s[j] ∧ 0 ≤ figV s[j + 1] := by simp [figBad] at hbad'; omega
        obtain ⟨hb1, hb2⟩ := hb
        have hb3 := figV_le s[j]
        have hb4 := figV_le s[j + 1]
        clear hgood hv hbad hbad'
        have hown1 : wr.drew.ownsRow W.heap.size 5 1 u4 acc.length (bvs acc) := hown
        go_wp2_with (at_builtin; refine wpList_append_own _ rfl _ _ 22 rfl W.heap.size 5 i0 (.int .u8 0) 1 1 Tryz.underlying22 hi hz0 hz1 hz2 rfl (by decide) _ _ _ rfl (hown1.alloc _) ⟨wr.drew.heap.size, 0, none⟩ 1 1 [.int .u8 (16 * figV s[j] + figV s[j + 1])] rfl rfl ?c1 ?c2 ?c3 ?c4 ?c5 ?_)
        case c1 =>
          intro q u hq
          match q, hq with
          | 0, hq => simp at hq; subst hq; simp [Addr.add]
        case c2 => intro u hu; simp at hu; subst hu; rfl
        case c3 => unfold maxLen; omega
        case c4 => omega
        case c5 => have := hbel.size; simp; omega
        intro v' w1 hown' hgrow _
        have hlow := fun q hq => (hown.lt q hq).1
        clear hown hown1
        go_wp2
        go_roundw
        case rel =>
          refine ⟨j + 2, acc ++ [byteOf s[j] s[j + 1]], by omega, by go_num, by rw [HT.out]; exact HG.out, ?_, (hbel.drew.alloc (by have := hbel.size; simp; omega) _).grown hgrow (by have := hbel.size; simp; omega) hlow⟩
          rw [bvs_append, List.length_append]
          have e : bvs [byteOf s[j] s[j + 1]] = [.int .u8 (16 * figV s[j] + figV s[j + 1])] := by simp [bvs, HV.out]
          rw [e]
          exact hown'
        case measure => simp [intOf]; omega
    · have hjs : s.data.toList.take j = s.data.toList := List.take_of_length_le (by omega)
      rw [hjs] at hp
      have HP := Lib.hid hp
      clear hp hjs hj
      go_wp2
      go_ret2
      exact .inl ⟨_, acc, rfl, HP.out, BytesAt.of_owns hown, hbel⟩
def ParsePost (s : ByteArray) (W : World) (e : Ending) (w' : World) : Prop :=
  (∃ v l, e = .returned (.tuple #[v, .bool true]) ∧ parseB s.data.toList = some l ∧ BytesAt w' v l ∧ Below W.heap.size W w') ∨
    (e = .returned (.tuple #[.slice none 0 0, .bool false]) ∧ parseB s.data.toList = none ∧ Below W.heap.size W w')

theorem refbytes_any (s : ByteArray) (W : World) (hs : s.size ≤ 140737488355) : Calls Tryz.prog 9 #[.string s] W (ParsePost s W) := by
  have hsl : s.data.toList.length = s.size := by simp
  by_cases h45 : s.data.toList = [45]
  · have e1 : (s.toList == [45]) = true := by rw [ByteArray.toList_eq, h45]; rfl
    have hp : parseB s.data.toList = some [] := by unfold parseB; rw [if_pos h45]
    have HP := Lib.hid hp
    clear hp h45
    go_enter Tryz.func9, Tryz.ntmps9
    go_wp2
    go_ret2
    exact .inl ⟨_, [], rfl, HP.out, ⟨none, 0, rfl, Nat.le_refl _, .inl rfl⟩, Below.refl _ _⟩
  · have e1 : (s.toList == [45]) = false := by rw [ByteArray.toList_eq]; simpa using h45
    by_cases h0 : s.data.toList = []
    · have hz : s.size = 0 := by rw [← hsl, h0]; rfl
      have hp : parseB s.data.toList = none := by unfold parseB; rw [if_neg h45, if_pos h0]
      have HP := Lib.hid hp
      have e2 : ((s.size : Int) == 0) = true := by rw [hz]; rfl

      clear hp h0 h45 hsl hz
      go_enter Tryz.func9, Tryz.ntmps9
      go_wp2
      go_ret2
      exact .inr ⟨rfl, HP.out, Below.refl _ _⟩
    · by_cases he : s.size % 2 = 0
      · refine (refbytes_pairs s W hs he h0 h45).mono fun e w' h => ?_
        have hp : parseB s.data.toList = pairs s.data.toList := by unfold parseB; rw [if_neg h45, if_neg h0]
        unfold PairsPost at h
        unfold ParsePost
        rw [hp]
        exact h
      · have hp : parseB s.data.toList = none := parse_odd (by omega) h45
        have HP := Lib.hid hp
        have e2 : ((s.size : Int) == 0) = false := by rw [beq_eq_false_iff_ne]; omega
        have e3 : ((s.size : Int) % 2 == 1) = true := by rw [beq_iff_eq]; omega
        clear h0
        clear hp h45 hsl
        go_enter Tryz.func9, Tryz.ntmps9
        go_wp2
        go_ret2
        exact .inr ⟨rfl, HP.out, Below.refl _ _⟩

theorem bytes_any (s : ByteArray) (W : World) (hs : s.size ≤ 140737488355) : Calls Tryz.prog 8 #[.string s] W (ParsePost s W) := by
  have hsl : s.data.toList.length = s.size := by simp
  by_cases h45 : s.data.toList = [45]
  · have e1 : (s.toList == [45]) = true := by rw [ByteArray.toList_eq, h45]; rfl
    have hp : parseB s.data.toList = some [] := by unfold parseB; rw [if_pos h45]
    have HP := Lib.hid hp
    clear hp h45
    go_enter Tryz.func8, Tryz.ntmps8
    go_wp2
    go_ret2
    exact .inl ⟨_, [], rfl, HP.out, ⟨none, 0, rfl, Nat.le_refl _, .inl rfl⟩, Below.refl _ _⟩
  · have e1 : (s.toList == [45]) = false := by rw [ByteArray.toList_eq]; simpa using h45
    by_cases h0 : s.data.toList = []
    · have hz : s.size = 0 := by rw [← hsl, h0]; rfl
      have hp : parseB s.data.toList = none := by unfold parseB; rw [if_neg h45, if_pos h0]
      have HP := Lib.hid hp
      have e2 : s.toList.isEmpty = true := by rw [ByteArray.toList_eq, h0]; rfl

      clear hp h0 h45 hsl hz
      go_enter Tryz.func8, Tryz.ntmps8
      go_wp2
      go_ret2
      exact .inr ⟨rfl, HP.out, Below.refl _ _⟩
    · by_cases he : s.size % 2 = 0
      · refine (bytes_pairs s W hs he h0 h45).mono fun e w' h => ?_
        have hp : parseB s.data.toList = pairs s.data.toList := by unfold parseB; rw [if_neg h45, if_neg h0]
        unfold PairsPost at h
        unfold ParsePost
        rw [hp]
        exact h
      · have hp : parseB s.data.toList = none := parse_odd (by omega) h45
        have HP := Lib.hid hp
        have e2 : s.toList.isEmpty = false := by rw [ByteArray.toList_eq, List.isEmpty_eq_false_iff]; exact h0
        have e3 : (((s.size : Int) % 2) != 0) = true := by rw [bne_iff_ne]; omega
        clear h0
        clear hp h45 hsl
        go_enter Tryz.func8, Tryz.ntmps8
        go_wp2
        go_ret2
        exact .inr ⟨rfl, HP.out, Below.refl _ _⟩
end Go.Proofs
