/- Contracts: what a number's word is (shell.cutLeft, cutRight, number). -/
import Derived.Test.YtebdaijenenepaaGreatDoorWords
import Derived.Test.YtebdaijenenepaaGreatDoorDraw
import Derived.Lib.OthersKept
set_option maxRecDepth 100000
namespace Go.Proofs
open Go Go.RowKit

def iterLeft (k : Nat) (w : World) : Nat := match w.heap[k]? with | some (.stringIter s p) => s.size - p | _ => 0
theorem iterLeft_at {k : Nat} {w : World} {s : ByteArray} {p : Nat} (h : w.heap[k]? = some (.stringIter s p)) : iterLeft k w = s.size - p := by unfold iterLeft; rw [h]

def isDig (c : UInt8) : Bool := decide (48 ≤ c.toNat) && decide (c.toNat ≤ 57)
def digs : ByteArray := ⟨#[48, 49, 50, 51, 52, 53, 54, 55, 56, 57]⟩
def inDigs (p : Nat) (c : Int) : Bool := decide (48 ≤ c) && decide (c < 48 + p)
theorem inDigs_zero (c : Int) : inDigs 0 c = false := by simp [inDigs]
theorem inDigs_succ (p : Nat) (c : Int) : inDigs (p + 1) c = (inDigs p c || (c == 48 + (p : Int))) := by
  rw [Bool.eq_iff_iff]; simp [inDigs]; omega
theorem digs_get (p : Nat) (h : p < digs.size) : (digs[p]).toNat = 48 + p := by
  have hn : p < 10 := h
  have : p = 0 ∨ p = 1 ∨ p = 2 ∨ p = 3 ∨ p = 4 ∨ p = 5 ∨ p = 6 ∨ p = 7 ∨ p = 8 ∨ p = 9 := by omega
  rcases this with rfl | rfl | rfl | rfl | rfl | rfl | rfl | rfl | rfl | rfl
  all_goals rfl
theorem run_range_str (w : World) (s : ByteArray) : (Instr.range 9 (.string s)).run Tryz.prog w = .ok (.pointer (some ⟨w.heap.size, 0, none⟩)) (w.alloc (.stringIter s 0)) := by
  rw [run_range_string w 9 s Tryz.underlying9]; rfl
theorem next_digs (w : World) (k p : Nat) (ty : TypeId) (hk : w.heap[k]? = some (.stringIter digs p)) (h : p < 10) :
    (Instr.next (.pointer (some ⟨k, 0, none⟩)) true ty).run Tryz.prog w = .ok (.tuple #[.bool true, .int .i64 p, .int .i32 (48 + p)]) (w.iterAt k digs (p + 1)) := by
  have h' : p < digs.size := h
  rw [Lib.run_next_ascii_at w k digs p ty hk h' (by rw [digs_get]; exact Nat.lt_trans (Nat.add_lt_add_left h 48) (by decide)), digs_get, Int.natCast_add]
  rfl
theorem alloc_last (w : World) (o : Obj) : (w.alloc o).heap[w.heap.size]? = some o := by
  show (w.heap.push o)[w.heap.size]? = some o
  exact Array.getElem?_push_size
theorem get_alloc (w : World) (o : Obj) (k : Nat) (h : k < w.heap.size) : (w.alloc o).heap[k]? = w.heap[k]? := Below.heap_alloc w o k h
theorem lt_of_some {w : World} {k : Nat} {o : Obj} (h : w.heap[k]? = some o) : k < w.heap.size := (Array.getElem?_eq_some_iff.1 h).1

theorem decode_high (s : ByteArray) (k : Nat) (h : ¬ (s.get! k).toNat < 128) : 128 ≤ (Utf8.decode s k).1 := by
  unfold Utf8.decode Utf8.runeError
  simp only [Nat.add_zero]
  rw [if_neg h]
  split
  · split
    · simp; omega
    · simp
  · split
    · split
      · rename_i h1; simp at h1 ⊢; omega
      · simp
    · split
      · split
        · rename_i h1; simp at h1 ⊢; omega
        · simp
      · simp
theorem get_bang (s : ByteArray) (k : Nat) (h : k < s.size) : s.get! k = s[k] := by
  show s.data[k]! = s.data[k]
  exact getElem!_pos s.data k h
theorem decode_dig (s : ByteArray) (k : Nat) (h : k < s.size) : inDigs 10 ((Utf8.decode s k).1 : Nat) = isDig s[k] ∧ (isDig s[k] = true → (Utf8.decode s k).2 = 1) := by
  by_cases ha : s[k].toNat < 128
  · rw [decode_ascii s k h ha]
    refine ⟨?_, fun _ => rfl⟩
    rw [Bool.eq_iff_iff]; simp [inDigs, isDig]; omega
  · have := decode_high s k (by rw [get_bang s k h]; exact ha)
    have e1 : isDig s[k] = false := by simp [isDig]; omega
    refine ⟨?_, fun h => by rw [e1] at h; cases h⟩
    rw [e1]; simp [inDigs]; omega

def cutL : List UInt8 → List UInt8
  | [] => []
  | c :: l => if isDig c then cutL l else c :: l
theorem cutL_drop (s : ByteArray) (k : Nat) (hk : k ≤ s.size) (h : ∀ j (hj : j < s.size), j < k → isDig s[j] = true) : cutL s.data.toList = cutL (s.data.toList.drop k) := by
  induction k with
  | zero => rfl
  | succ k ih =>
    have hlt : k < s.data.toList.length := by simp; omega
    rw [ih (by omega) (fun j hj hjk => h j hj (by omega)), List.drop_eq_getElem_cons hlt]
    have : isDig s.data.toList[k] = true := h k (by omega) (by omega)
    rw [cutL, if_pos this]
theorem cutL_at (s : ByteArray) (k : Nat) (hk : k < s.size) (h : ∀ j (hj : j < s.size), j < k → isDig s[j] = true) (hn : isDig s[k] = false) : cutL s.data.toList = s.data.toList.drop k := by
  have hlt : k < s.data.toList.length := by simp; omega
  rw [cutL_drop s k (by omega) h, List.drop_eq_getElem_cons hlt, cutL]
  have e : isDig s.data.toList[k] = false := hn
  rw [e]; simp
theorem cutL_end (s : ByteArray) (h : ∀ j (hj : j < s.size), j < s.size → isDig s[j] = true) : cutL s.data.toList = [] := by
  rw [cutL_drop s s.size (Nat.le_refl _) h, List.drop_of_length_le (by simp), cutL]

set_option maxHeartbeats 2000000 in
theorem cutLeft_any (s : ByteArray) (W : World) (_hs : s.size ≤ 140737488355) :
    Calls Tryz.prog 146 #[.string s, .string digs] W fun e w' => e = .returned (.string ⟨(cutL s.data.toList).toArray⟩) ∧ Below W.heap.size W w' := by
  have hrange := run_range_str
  go_enter Tryz.func146, Tryz.ntmps146
  go_wp2
  go_loopw [7] (fun v wr => ∃ k : Nat, k ≤ s.size ∧ wr.heap[W.heap.size]? = some (.stringIter s k) ∧ (∀ j (h : j < s.size), j < k → isDig s[j] = true) ∧ Below W.heap.size W wr) (fun v wr => iterLeft W.heap.size wr)
  case atStart => exact ⟨0, Nat.zero_le _, alloc_last _ _, fun j _ h => absurd h (Nat.not_lt_zero j), (Below.refl _ _).alloc (Nat.le_refl _) _⟩
  case round =>
    obtain ⟨k, hk, hit, hdig, hbel⟩ := hrel
    have HD := Lib.hid hdig
    clear hdig
    by_cases hlt : k < s.size
    · have hn := fun ty => Lib.run_next_any_at (P := Tryz.prog) wr W.heap.size s k ty hit hlt
      have hbel1 := Lib.below_iterAt hbel (Nat.le_refl _) s (k + (Utf8.decode s k).2)
      have hit1 := Lib.iterAt_heap wr W.heap.size s k (k + (Utf8.decode s k).2) hit
      go_wp2
      have hlt1 := lt_of_some hit1
      generalize wr.iterAt W.heap.size s (k + (Utf8.decode s k).2) = w1 at hbel1 hit1 hlt1 ⊢
      obtain ⟨c, hc⟩ : ∃ c : Int, c = (Utf8.decode s k).1 := ⟨_, rfl⟩
      rw [← hc]
      have hdd := decode_dig s k hlt
      rw [← hc] at hdd
      have HDD := Lib.hid hdd
      have HIT := Lib.hid hit
      clear hc hn hit hbel hdd
      go_loopw [7, 9] (fun v u wi => ∃ p : Nat, p ≤ 10 ∧ v = .bool (inDigs p c) ∧ wi.heap[w1.heap.size]? = some (.stringIter digs p) ∧ Below w1.heap.size w1 wi) (fun v u wi => iterLeft w1.heap.size wi)
      case atStart => exact ⟨0, by omega, by rw [inDigs_zero], alloc_last _ _, (Below.refl _ _).alloc (Nat.le_refl _) _⟩
      case round =>
        obtain ⟨p, hp, rfl, hitp, hbelp⟩ := hrel
        by_cases hp10 : p < 10
        · have hn := fun ty => next_digs wr w1.heap.size p ty hitp hp10
          have hs := inDigs_succ p c
          have HS := Lib.hid hs
          clear hs
          have hbel2 := Lib.below_iterAt hbelp (Nat.le_refl _) digs (p + 1)
          have hit2 := Lib.iterAt_heap wr w1.heap.size digs p (p + 1) hitp
          by_cases hin : inDigs p c = true
          · go_wp2
            go_roundw
            case rel => exact ⟨p + 1, by omega, by rw [HS.out, hin]; rfl, hit2, hbel2⟩
            case measure => rw [iterLeft_at hit2, iterLeft_at hitp]; exact Nat.sub_lt_sub_left hp10 (Nat.lt_succ_self p)
          · have hin' : inDigs p c = false := by simpa using hin
            clear hin
            go_wp2
            refine ⟨⟨p + 1, by omega, by rw [HS.out, hin']; rfl, hit2, hbel2⟩, ?_⟩
            rw [iterLeft_at hit2, iterLeft_at hitp]
            exact Nat.sub_lt_sub_left hp10 (Nat.lt_succ_self p)
        · have hn := fun ty => Lib.run_next_end_at (P := Tryz.prog) wr w1.heap.size digs p ty hitp hp10
          obtain rfl : p = 10 := by omega
          have hbelw : Below W.heap.size W wr := hbel1.trans (hbelp.mono (Nat.le_of_lt hlt1))
          have hitw : wr.heap[W.heap.size]? = some (.stringIter s (k + (Utf8.decode s k).2)) := by rw [hbelp.block W.heap.size hlt1]; exact hit1
          by_cases hin : inDigs 10 c = true
          · have hd1 : isDig s[k] = true := by rw [← HDD.out.1]; exact hin
            have h2 := HDD.out.2 hd1
            rw [h2] at hitw
            have H2 := Lib.hid h2
            have HD1 := Lib.hid hd1
            clear h2 hd1
            go_wp2
            refine ⟨⟨k + 1, by omega, hitw, ?_, hbelw⟩, ?_⟩
            · intro j hj hjk
              by_cases hjk' : j < k
              · exact HD.out j hj hjk'
              · obtain rfl : j = k := by omega
                exact HD1.out
            · rw [iterLeft_at hitw, iterLeft_at HIT.out]
              exact Nat.sub_lt_sub_left hlt (Nat.lt_succ_self k)
          · have hin' : inDigs 10 c = false := by simpa using hin
            have hd1 : isDig s[k] = false := by rw [← HDD.out.1]; exact hin'
            have HD1 := Lib.hid hd1
            clear hin hd1
            go_wp2
            go_ret
            exact ⟨ret_str (by rw [cutL_at s k hlt HD.out HD1.out, extract_drop]), hbelw⟩
    · have hn := fun ty => Lib.run_next_end_at (P := Tryz.prog) wr W.heap.size s k ty hit hlt
      obtain rfl : k = s.size := by omega
      go_wp2
      go_ret
      exact ⟨ret_str (by rw [cutL_end s HD.out]), hbel⟩

theorem last_high (l : List UInt8) (hne : l ≠ []) (h : ¬ (l.getD (l.length - 1) 0).toNat < 128) : 128 ≤ (Lib.decodeLastL l).1 := by
  unfold Lib.decodeLastL
  rw [if_neg hne, if_neg h]
  simp only []
  split
  · rename_i hst
    unfold Lib.decodeL at hst ⊢
    by_cases hb : ((⟨(l.drop (Lib.lastStart l)).toArray⟩ : ByteArray).get! 0).toNat < 128
    · exfalso
      have hd : Utf8.decode ⟨(l.drop (Lib.lastStart l)).toArray⟩ 0 = (((⟨(l.drop (Lib.lastStart l)).toArray⟩ : ByteArray).get! 0).toNat, 1) := by
        unfold Utf8.decode
        simp only [Nat.add_zero]
        rw [if_pos hb]
      rw [hd] at hst
      simp only [] at hst
      have hl : 0 < l.length := List.length_pos_iff.2 hne
      have e : ((⟨(l.drop (Lib.lastStart l)).toArray⟩ : ByteArray).get! 0) = l.getD (l.length - 1) 0 := by
        show ((l.drop (Lib.lastStart l)).toArray)[0]! = _
        have hlt : Lib.lastStart l < l.length := by omega
        have hlen : 0 < (l.drop (Lib.lastStart l)).length := by rw [List.length_drop]; omega
        rw [getElem!_pos _ 0 (by simpa using hlen)]
        simp only [List.getElem_toArray, List.getElem_drop]
        have : Lib.lastStart l + 0 = l.length - 1 := by omega
        rw [List.getD_eq_getElem?_getD, List.getElem?_eq_getElem (by omega), Option.getD_some]
        congr 1
      rw [e] at hb
      exact h hb
    · exact decode_high _ 0 hb
  · unfold Utf8.runeError; simp

def cutR (l : List UInt8) : List UInt8 := (cutL l.reverse).reverse
theorem cutR_snoc (l : List UInt8) (c : UInt8) : cutR (l ++ [c]) = if isDig c then cutR l else l ++ [c] := by
  unfold cutR
  rw [List.reverse_append, List.reverse_singleton, List.singleton_append, cutL]
  split <;> simp
theorem cutR_nil : cutR [] = [] := rfl
theorem last_split (t : ByteArray) (h : 0 < t.size) : t.data.toList = t.data.toList.take (t.size - 1) ++ [t[t.size - 1]] := by
  have hl : t.data.toList.length = t.size := by simp
  have hlt : t.size - 1 < t.data.toList.length := by omega
  have := List.take_succ_eq_append_getElem hlt
  rw [show t.size - 1 + 1 = t.data.toList.length from by omega, List.take_length] at this
  exact this
theorem last_dig (t : ByteArray) (h : 0 < t.size) : inDigs 10 ((Lib.decodeLastL t.data.toList).1 : Nat) = isDig t[t.size - 1] ∧ (isDig t[t.size - 1] = true → (Lib.decodeLastL t.data.toList).2 = 1) := by
  have h2 : t.data.toList.length = t.size := by simp
  have hne : t.data.toList ≠ [] := fun e => by rw [e] at h2; simp at h2; omega
  have hl : t.data.toList.length = t.size := by simp
  have hg : t.data.toList.getD (t.data.toList.length - 1) 0 = t[t.size - 1] := by
    rw [List.getD_eq_getElem?_getD, List.getElem?_eq_getElem (by omega), Option.getD_some]
    simp only [hl]; rfl
  by_cases ha : t[t.size - 1].toNat < 128
  · have hd : Lib.decodeLastL t.data.toList = (t[t.size - 1].toNat, 1) := by
      unfold Lib.decodeLastL
      rw [if_neg hne, hg, if_pos ha]
    rw [hd]
    refine ⟨?_, fun _ => rfl⟩
    rw [Bool.eq_iff_iff]; simp [inDigs, isDig]; omega
  · have := last_high _ hne (by rw [hg]; exact ha)
    have e1 : isDig t[t.size - 1] = false := by simp [isDig]; omega
    refine ⟨?_, fun h => by rw [e1] at h; cases h⟩
    rw [e1]; simp [inDigs]; omega

theorem tabs_below {w w' : World} {B : Nat} (h : Lib.Utf8Tabs 7 8 w) (hb : Below B w w') (hB : 9 ≤ B) : Lib.Utf8Tabs 7 8 w' :=
  ⟨fun c hc => by rw [hb.cell (p := ⟨7, c, none⟩) (by simp; omega)]; exact h.1 c hc,
   fun i hi => by rw [hb.cell (p := ⟨8, 2 * i, none⟩) (by simp; omega), hb.cell (p := ⟨8, 2 * i + 1, none⟩) (by simp; omega)]; exact h.2 i hi⟩

set_option maxHeartbeats 2000000 in
theorem cutRight_any (s : ByteArray) (W : World) (hs : s.size ≤ 140737488355) (hT : Lib.Utf8Tabs 7 8 W) (h9 : 9 ≤ W.heap.size) :
    Calls Tryz.prog 145 #[.string s, .string digs] W fun e w' => e = .returned (.string ⟨(cutR s.data.toList).toArray⟩) ∧ Below W.heap.size W w' := by
  have hrange := run_range_str
  go_enter Tryz.func145, Tryz.ntmps145
  go_wp2
  go_loopw [0] (fun v wr => ∃ t : ByteArray, v = .string t ∧ t.size ≤ s.size ∧ cutR t.data.toList = cutR s.data.toList ∧ Below W.heap.size W wr) (fun v _ => match v with | .string t => t.size | _ => 0)
  case atStart => exact ⟨s, rfl, Nat.le_refl _, rfl, Below.refl _ _⟩
  case round =>
    obtain ⟨t, rfl, ht, hcut, hbel⟩ := hrel
    have HCUT := Lib.hid hcut
    clear hcut
    by_cases hpos : 0 < t.size
    · go_wp2_with (go_at_call 226; refine (Tryz.utf8_DecodeLastRuneInString _ _ (by omega) (tabs_below hT hbel h9)).mono ?_)
      rintro e w1 ⟨rfl, hb1⟩
      obtain ⟨c, hc⟩ : ∃ c : Int, c = (Lib.decodeLastL t.data.toList).1 := ⟨_, rfl⟩
      rw [← hc]
      have hdd := last_dig t hpos
      rw [← hc] at hdd
      have HDD := Lib.hid hdd
      have hbel1 := hbel.trans (hb1.mono hbel.size)
      clear hc hdd hbel hb1
      go_wp2
      go_loopw [7, 9] (fun v u wi => ∃ p : Nat, p ≤ 10 ∧ v = .bool (inDigs p c) ∧ wi.heap[w1.heap.size]? = some (.stringIter digs p) ∧ Below w1.heap.size w1 wi) (fun v u wi => iterLeft w1.heap.size wi)
      case atStart => exact ⟨0, by omega, by rw [inDigs_zero], alloc_last _ _, (Below.refl _ _).alloc (Nat.le_refl _) _⟩
      case round =>
        obtain ⟨p, hp, rfl, hitp, hbelp⟩ := hrel
        by_cases hp10 : p < 10
        · have hn := fun ty => next_digs wr w1.heap.size p ty hitp hp10
          have hs := inDigs_succ p c
          have HS := Lib.hid hs
          clear hs
          have hbel2 := Lib.below_iterAt hbelp (Nat.le_refl _) digs (p + 1)
          have hit2 := Lib.iterAt_heap wr w1.heap.size digs p (p + 1) hitp
          by_cases hin : inDigs p c = true
          · go_wp2
            go_roundw
            case rel => exact ⟨p + 1, by omega, by rw [HS.out, hin]; rfl, hit2, hbel2⟩
            case measure => rw [iterLeft_at hit2, iterLeft_at hitp]; exact Nat.sub_lt_sub_left hp10 (Nat.lt_succ_self p)
          · have hin' : inDigs p c = false := by simpa using hin
            clear hin
            go_wp2
            refine ⟨⟨p + 1, by omega, by rw [HS.out, hin']; rfl, hit2, hbel2⟩, ?_⟩
            rw [iterLeft_at hit2, iterLeft_at hitp]
            exact Nat.sub_lt_sub_left hp10 (Nat.lt_succ_self p)
        · have hn := fun ty => Lib.run_next_end_at (P := Tryz.prog) wr w1.heap.size digs p ty hitp hp10
          obtain rfl : p = 10 := by omega
          have hbelw : Below W.heap.size W wr := hbel1.trans (hbelp.mono hbel1.size)
          have hsplit := last_split t hpos
          have HSP := Lib.hid hsplit
          clear hsplit
          by_cases hin : inDigs 10 c = true
          · have hd1 : isDig t[t.size - 1] = true := by rw [← HDD.out.1]; exact hin
            have h2 := HDD.out.2 hd1
            have h2' : (((Lib.decodeLastL t.data.toList).2 : Nat) : Int) = 1 := by rw [h2]; rfl
            rw [h2']
            have HD1 := Lib.hid hd1
            clear h2 h2' hd1
            have q1 : (0 : Int) ≤ (t.size : Int) - 1 := by omega
            have q2 : (t.size : Int) - 1 ≤ (t.size : Int) := by omega
            have q3 : ((t.size : Int) - 1).toNat = t.size - 1 := by omega
            have hsz : (t.extract 0 (t.size - 1)).size = t.size - 1 := by rw [ByteArray.size_extract]; omega
            have HSZ := Lib.hid hsz
            clear hsz
            go_wp2
            refine ⟨⟨_, rfl, by rw [HSZ.out]; omega, ?_, hbelw⟩, by show ByteArray.size _ < t.size; rw [HSZ.out]; omega⟩
            rw [extract_take, ← HCUT.out, HSP.out, cutR_snoc, HD1.out, if_pos rfl, ← HSP.out]
          · have hin' : inDigs 10 c = false := by simpa using hin
            have hd1 : isDig t[t.size - 1] = false := by rw [← HDD.out.1]; exact hin'
            have HD1 := Lib.hid hd1
            clear hin hd1
            go_wp2
            go_ret
            exact ⟨ret_str (by rw [← HCUT.out, HSP.out, cutR_snoc, HD1.out, ← HSP.out]; simp), hbelw⟩
    · have hl0 : t.data.toList.length = t.size := by simp
      have ht0 : t.data.toList = [] := List.length_eq_zero_iff.1 (by omega)
      clear hl0
      have hz : t.size = 0 := by omega
      rw [ht0] at HCUT
      clear hpos
      go_wp2
      go_ret
      exact ⟨ret_str (by rw [← HCUT.out, cutR_nil]; exact ByteArray.ext (Array.ext' (by rw [ht0]))), hbel⟩
end Go.Proofs
