/- Contracts: shell.Hex and the reference's Hex tell the same text; figure. -/
import Derived.Test.YtebdaijenenepaaGreatDoorWords
import Derived.Test.YtebdaijenenepaaGreatDoorDraw
set_option maxRecDepth 100000
namespace Go.Proofs
open Go Go.RowKit

set_option maxHeartbeats 1000000 in
theorem hex_some (b off : Nat) (l : List UInt8) (cap : Nat) (W : World) (hne : l ≠ []) (hl : l.length ≤ 140737488355) (hlt : b < W.heap.size) (hc : ∀ j (h : j < l.length), W.cell? ⟨b, off + j, none⟩ = some (.int .u8 l[j].toNat)) :
    Calls Tryz.prog 10 #[.slice (some ⟨b, off, none⟩) l.length cap] W fun e w' => e = .returned (.string ⟨(hexOf l).toArray⟩) ∧ Below W.heap.size W w' := by
  have h0 : ((l.length : Int) == 0) = false := by
    cases l with
    | nil => exact absurd rfl hne
    | cons x l => rw [beq_eq_false_iff_ne]; simp; omega
  go_enter Tryz.func10, Tryz.ntmps10
  go_wp2
  go_loopw [5, 11] (fun c i wr => ∃ k : Nat, k ≤ l.length ∧ i = .int .i64 k ∧ Lib.IsBuilderF 53 5 W.heap.size W.heap.size ((hexOf (l.take k)).map fun x => .int .u8 x.toNat) wr ∧ Below W.heap.size W wr) (fun c i _ => l.length - (intOf i).toNat)
  case atStart => exact ⟨0, Nat.zero_le _, rfl, Lib.IsBuilderF.of (Lib.fresh_isBuilder 53 5 W), (Below.refl _ _).alloc (Nat.le_refl _) _⟩
  case round =>
    obtain ⟨k, hk, rfl, hB, hbel⟩ := hrel
    by_cases hlt' : k < l.length
    · have hcell : wr.cell? ⟨b, off + k, none⟩ = some (.int .u8 l[k].toNat) := by rw [hbel.cell (p := ⟨b, off + k, none⟩) hlt]; exact hc k hlt'
      have hb1 : l[k].toNat / 16 < 16 := by have := l[k].toNat_lt; omega
      have hb2 : l[k].toNat % 16 < 16 := by omega
      have hlen : (hexOf (l.take k)).length = 2 * k := by rw [hexOf_length, List.length_take]; omega
      have hsz := hbel.size
      have hcast : (hexOf (l.take (k + 1))).map (fun x => Value.int .u8 x.toNat) = ((hexOf (l.take k)).map fun x => Value.int .u8 x.toNat) ++ [Value.int .u8 (fig (l[k].toNat / 16)).toNat] ++ [Value.int .u8 (fig (l[k].toNat % 16)).toNat] := by
        rw [hexOf_snoc l k hlt']; simp
      have HC := Lib.hid hcast
      clear hcast
      have HL := Lib.hid hlen
      clear hlen
      go_wp2_with (fail)
      rw [get_fig]
      refine (Base.WriteByte_k W.heap.size W.heap.size _ _ _ hB (by rw [List.length_map, HL.out]; omega) hsz).mono ?_
      rintro e w1 ⟨rfl, hB1, hbel1, _⟩
      go_wp2_with (fail)
      rw [get_fig]
      refine (Base.WriteByte_k W.heap.size W.heap.size _ _ _ (.inr hB1) (by rw [List.length_append, List.length_map, HL.out]; simp; omega) (Nat.le_trans hsz hbel1.size)).mono ?_
      rintro e w2 ⟨rfl, hB2, hbel2, _⟩
      go_wp2
      go_roundw
      case rel => exact ⟨k + 1, by omega, by go_num, by rw [HC.out]; exact .inr hB2, (hbel.trans hbel1).trans hbel2⟩
      case measure => simp [intOf]; omega
    · have hkl : k = l.length := by omega
      subst hkl
      rw [List.take_length] at hB
      go_wp2_with (go_at_call 27; refine (Tryz.Builder_String_any_k W.heap.size W.heap.size (hexOf l) _ hB hbel.size).mono ?_; rintro e w1 ⟨rfl, _, hb1, _⟩)
      go_ret
      exact ⟨rfl, hbel.trans hb1⟩
def figV (c : UInt8) : Int := if 48 ≤ c.toNat ∧ c.toNat ≤ 57 then (c.toNat : Int) - 48 else if 97 ≤ c.toNat ∧ c.toNat ≤ 102 then (c.toNat : Int) - 97 + 10 else -1

set_option maxHeartbeats 400000 in
theorem figure_any (c : UInt8) (w : World) : Calls Tryz.prog 25 #[.int .u8 c.toNat] w fun e w' => e = .returned (.int .i64 (figV c)) ∧ w = w' := by
  have hc := c.toNat_lt
  by_cases h1 : 48 ≤ c.toNat ∧ c.toNat ≤ 57
  · have e : figV c = (c.toNat : Int) - 48 := by unfold figV; rw [if_pos h1]
    have E := Lib.hid e
    clear e
    obtain ⟨h2, h3⟩ := h1
    go_enter Tryz.func25, Tryz.ntmps25
    go_wp2
    go_ret
    exact ⟨by rw [E.out]; rfl, rfl⟩
  · by_cases h4 : 97 ≤ c.toNat ∧ c.toNat ≤ 102
    · have e : figV c = (c.toNat : Int) - 97 + 10 := by unfold figV; rw [if_neg h1, if_pos h4]
      have E := Lib.hid e
      clear e
      obtain ⟨h2, h3⟩ := h4
      have h5 : 57 < c.toNat := by omega
      clear h1
      go_enter Tryz.func25, Tryz.ntmps25
      go_wp2
      go_ret
      exact ⟨by rw [E.out]; rfl, rfl⟩
    · have e : figV c = -1 := by unfold figV; rw [if_neg h1, if_neg h4]
      have E := Lib.hid e
      clear e
      go_enter Tryz.func25, Tryz.ntmps25
      go_wp2
      all_goals first
        | (exfalso; omega)
        | (go_ret; exact ⟨by rw [E.out]; rfl, rfl⟩)

set_option maxHeartbeats 1000000 in
theorem refhex_some (b off : Nat) (l : List UInt8) (cap : Nat) (W : World) (hne : l ≠ []) (hl : l.length ≤ 140737488355) (hlt : b < W.heap.size) (hc : ∀ j (h : j < l.length), W.cell? ⟨b, off + j, none⟩ = some (.int .u8 l[j].toNat)) :
    Calls Tryz.prog 11 #[.slice (some ⟨b, off, none⟩) l.length cap] W fun e w' => e = .returned (.string ⟨(hexOf l).toArray⟩) ∧ Below W.heap.size W w' := by
  have h0 : ((l.length : Int) == 0) = false := by
    cases l with
    | nil => exact absurd rfl hne
    | cons x l => rw [beq_eq_false_iff_ne]; simp; omega
  go_enter Tryz.func11, Tryz.ntmps11
  go_wp2
  go_loopw [3, 4] (fun s i wr => ∃ k : Nat, k ≤ l.length ∧ i = .int .i64 k ∧ s = .string ⟨(hexOf (l.take k)).toArray⟩ ∧ Below W.heap.size W wr) (fun s i _ => l.length - (intOf i).toNat)
  case atStart => exact ⟨0, Nat.zero_le _, rfl, rfl, (Below.refl _ _)⟩
  case round =>
    obtain ⟨k, hk, rfl, rfl, hbel⟩ := hrel
    by_cases hlt' : k < l.length
    · have hcell : wr.cell? ⟨b, off + k, none⟩ = some (.int .u8 l[k].toNat) := by rw [hbel.cell (p := ⟨b, off + k, none⟩) hlt]; exact hc k hlt'
      have hb1 : l[k].toNat / 16 < 16 := by have := l[k].toNat_lt; omega
      have hb2 : l[k].toNat % 16 < 16 := by omega
      have hp : (0 : Int) ≤ (l[k].toNat : Int) / 16 + 1 ∧ (l[k].toNat : Int) / 16 + 1 ≤ 16 ∧ 0 ≤ (l[k].toNat : Int) / 16 ∧ (l[k].toNat : Int) / 16 ≤ (l[k].toNat : Int) / 16 + 1 := by omega
      have hq : (0 : Int) ≤ (l[k].toNat : Int) % 16 + 1 ∧ (l[k].toNat : Int) % 16 + 1 ≤ 16 ∧ 0 ≤ (l[k].toNat : Int) % 16 ∧ (l[k].toNat : Int) % 16 ≤ (l[k].toNat : Int) % 16 + 1 := by omega
      have hlen : (hexOf (l.take k)).length = 2 * k := by rw [hexOf_length, List.length_take]; omega
      have hno1 : ¬ 9223372036854775807 < min (l[k].toNat / 16 + 1) 16 - l[k].toNat / 16 + (min (l[k].toNat % 16 + 1) 16 - l[k].toNat % 16) := by omega
      have hno2 : ¬ 9223372036854775807 < (hexOf (l.take k)).length + (min (l[k].toNat / 16 + 1) 16 - l[k].toNat / 16 + (min (l[k].toNat % 16 + 1) 16 - l[k].toNat % 16)) := by omega
      clear hlen
      have hE : (⟨(hexOf (l.take k)).toArray⟩ : ByteArray) ++ ((⟨#[48, 49, 50, 51, 52, 53, 54, 55, 56, 57, 97, 98, 99, 100, 101, 102]⟩ : ByteArray).extract (l[k].toNat / 16) (l[k].toNat / 16 + 1) ++
          (⟨#[48, 49, 50, 51, 52, 53, 54, 55, 56, 57, 97, 98, 99, 100, 101, 102]⟩ : ByteArray).extract (l[k].toNat % 16) (l[k].toNat % 16 + 1)) = ⟨(hexOf (l.take (k + 1))).toArray⟩ := by
        rw [ext_fig _ hb1, ext_fig _ hb2, hexOf_snoc l k hlt', ← mk_append]; rfl
      have HE := Lib.hid hE
      clear hE
      go_wp2
      refine Draw.wp_draw [0,0,0,6,14,30,0,0,192,448,960,1984,4094,0,0,24576,57344,122880,0,0,786432,1835008,3932160,8126464,16769024,33554430,67108863,134217727] [] [[(0, .calm, []), (1, .calm, []), (2, .calm, []), (3, .calm, []), (4, .look, []), (5, .calm, []), (6, .calm, []), (7, .calm, []), (8, .calm, []), (9, .look, []), (10, .calm, []), (11, .calm, []), (12, .calm, []), (13, .calm, []), (14, .calm, []), (15, .calm, []), (16, .look, []), (17, .calm, []), (18, .calm, []), (19, .calm, []), (20, .calm, []), (21, .look, []), (22, .calm, []), (23, .calm, []), (24, .calm, []), (25, .calm, []), (26, .calm, []), (27, .calm, [])]] (by kernel_rfl) (by kernel_rfl) (by repeat (first | exact Draw.insP_body | refine Draw.insP_then ?_ | refine Draw.insP_block ?_)) ?_
      simp only [List.forall_mem_singleton]
      repeat (first
        | (refine Draw.wpD_calm rfl rfl (fun K hK => ?_); go_simp; (try go_bits); (try go_simp); refine hK _ _ ?_; clear hK K)
        | (refine Draw.wpD_look rfl rfl (fun K hK => ?_); go_simp; (try go_bits); (try go_simp); refine hK _ _ ?_; clear hK K))
      refine Draw.wpD_nil ?_
      go_wp2
      go_roundw
      case rel => exact ⟨k + 1, by omega, by go_num, by rw [← HE.out], hbel.drew⟩
      case measure => simp [intOf]; omega
    · have hkl : k = l.length := by omega
      subst hkl
      rw [List.take_length] at *
      go_wp2
      go_ret
      exact ⟨rfl, hbel⟩

theorem len_zero {l : List UInt8} (h : l = []) : ((l.length : Int) == 0) = true := by subst h; rfl

theorem hex_any (v : Value) (l : List UInt8) (W : World) (hv : BytesAt W v l) (hl : l.length ≤ 140737488355) :
    Calls Tryz.prog 10 #[v] W fun e w' => e = .returned (.string ⟨(hexStr l).toArray⟩) ∧ Below W.heap.size W w' := by
  obtain ⟨a, cap, rfl, h1, h3⟩ := hv
  by_cases hne : l = []
  · subst hne
    go_enter Tryz.func10, Tryz.ntmps10
    go_wp2
    go_ret
    exact ⟨rfl, Below.refl _ _⟩
  · obtain ⟨b, off, rfl, hlt, hc⟩ := h3.resolve_left hne
    have e : hexStr l = hexOf l := by unfold hexStr; rw [if_neg hne]
    rw [e]
    exact hex_some b off l cap W hne hl hlt hc

theorem refhex_any (v : Value) (l : List UInt8) (W : World) (hv : BytesAt W v l) (hl : l.length ≤ 140737488355) :
    Calls Tryz.prog 11 #[v] W fun e w' => e = .returned (.string ⟨(hexStr l).toArray⟩) ∧ Below W.heap.size W w' := by
  obtain ⟨a, cap, rfl, h1, h3⟩ := hv
  by_cases hne : l = []
  · subst hne
    go_enter Tryz.func11, Tryz.ntmps11
    go_wp2
    go_ret
    exact ⟨rfl, Below.refl _ _⟩
  · obtain ⟨b, off, rfl, hlt, hc⟩ := h3.resolve_left hne
    have e : hexStr l = hexOf l := by unfold hexStr; rw [if_neg hne]
    rw [e]
    exact refhex_some b off l cap W hne hl hlt hc
end Go.Proofs
