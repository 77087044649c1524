/- The plain law: for all bytes the program's Decode and the reference's Decoded answer alike, and what was decoded is encoded as the same bytes. Conditions: the bytes are bytes, of which there are at most as many as a slice can hold. -/
import Derived.Test.YtepcdjaghoclfaaDoorMyX
namespace Go.Proofs.YtepcdjaghoclfaaDoor.My
open Go.RowKit Go.Proofs.YtepcdjaghoclfaaDoorW.PrintWords Go.Proofs.YtepcdjaghoclfaaDoorW.PrintLast Go.Proofs.YtepcdjaghoclfaaDoorW.PrintMore Go.Proofs.YtepcdjaghoclfaaDoor.POpcodeDecodeMatchesSpec
set_option linter.unusedVariables false
set_option linter.unusedSimpArgs false

theorem decL_more (l : List Int) : ∀ (f : Nat) (i : Int) (out : List S30) (r : List S30 × Int × Int), decL l f i out = some r → decL l (f + 1) i out = some r := by
  intro f
  induction f with
  | zero => intro i out r h; rw [decL] at h; cases h
  | succ f ih =>
    intro i out r h
    rw [decL] at h ⊢
    by_cases hlt : i < (l.length : Int)
    · rw [if_pos hlt] at h ⊢
      by_cases h80 : 80 ≤ rd l i
      · rw [if_pos h80] at h ⊢; exact h
      · rw [if_neg h80] at h ⊢
        by_cases hout : out.length = 60000
        · rw [if_pos hout] at h ⊢; exact h
        · rw [if_neg hout] at h ⊢
          by_cases hg : (given l (cnt (rd l i)) 0 (i + 1) 0 0).1 = 0
          · rw [if_pos hg] at h ⊢; exact ih _ _ _ h
          · rw [if_neg hg] at h ⊢; exact h
    · rw [if_neg hlt] at h ⊢; exact h
theorem decL_up (l : List Int) (f : Nat) (i : Int) (out : List S30) (r : List S30 × Int × Int) (h : decL l f i out = some r) : ∀ m, decL l (f + m) i out = some r := by
  intro m
  induction m with
  | zero => exact h
  | succ m ih => exact decL_more l (f + m) i out r ih
theorem decode_up (l : List Int) (f : Nat) (r : List S30 × Int × Int) (h : opcode_Decode.f f l = some r) : ∀ m, opcode_Decode.f (f + m) l = some r := by
  intro m
  induction m with
  | zero => exact h
  | succ m ih => exact opcode_Decode.mono l (f + m) r ih
theorem decL_short (l : List Int) : ∀ (f : Nat) (i : Int) (out : List S30) (r : List S30 × Int × Int), out.length ≤ 60000 → decL l f i out = some r → r.1.length ≤ 60000 := by
  intro f
  induction f with
  | zero => intro i out r ho h; rw [decL] at h; cases h
  | succ f ih =>
    intro i out r ho h
    rw [decL] at h
    by_cases hlt : i < (l.length : Int)
    · rw [if_pos hlt] at h
      by_cases h80 : 80 ≤ rd l i
      · rw [if_pos h80] at h; rw [← Option.some.inj h]; exact Nat.zero_le _
      · rw [if_neg h80] at h
        by_cases hout : out.length = 60000
        · rw [if_pos hout] at h; rw [← Option.some.inj h]; exact Nat.zero_le _
        · rw [if_neg hout] at h
          by_cases hg : (given l (cnt (rd l i)) 0 (i + 1) 0 0).1 = 0
          · rw [if_pos hg] at h; exact ih _ _ _ (by simp; omega) h
          · rw [if_neg hg] at h; rw [← Option.some.inj h]; exact Nat.zero_le _
    · rw [if_neg hlt] at h; rw [← Option.some.inj h]; exact ho

theorem plain_law (l : List Int) (hl : ∀ x ∈ l, 0 ≤ x ∧ x ≤ 255) (hlen : l.length ≤ 140737488351232) : ∃ (k : Nat) (x : List S30) (c d : Int),
    opcode_Decode.f k l = some (x, c, d) ∧ decL l k 0 [] = some (x, c, d) ∧ api_Instr.f k x x = some true ∧ (c = 0 → opcode_Encode.f k x = some (l, 0, 0)) ∧ slices_Equal_byte_byte.f k l l = some true := by
  obtain ⟨⟨x, c, d⟩, hr⟩ := dec_ends l (l.length + 1) 0 [] (by omega) (by omega) (by omega)
  obtain ⟨k1, hk1⟩ := dec_l0 l hl hlen (l.length + 1) 0 [] (x, c, d) (by omega) (by omega) (by decide) hr
  have hk1' : opcode_Decode.f k1 l = some (x, c, d) := hk1
  have hx : x.length ≤ 60000 := decL_short l (l.length + 1) 0 [] (x, c, d) (by decide) hr
  have enc : ∃ K, c = 0 → ∀ k, K ≤ k → opcode_Encode.f k x = some (l, 0, 0) := by
    by_cases hc : c = 0
    · subst hc
      obtain ⟨rest, r1, _, r3, r4⟩ := dec_bytes l hl (l.length + 1) 0 [] x d (by omega) (by omega) (by decide) hr
      have e1 : x = rest := by rw [r1]; rfl
      have e2 : l = x.flatMap eb := by rw [e1, ← r4]; rfl
      obtain ⟨K, hK⟩ := enc_f x hx (by rw [e1]; exact r3)
      refine ⟨K, fun _ k hk => ?_⟩
      have h := hK k hk
      rw [← e2] at h
      exact h
    · exact ⟨0, fun h => absurd h hc⟩
  obtain ⟨K, hK⟩ := enc
  refine ⟨k1 + (l.length + 1) + K + 60001, x, c, d, ?_, ?_, ?_, ?_, ?_⟩
  · have h := decode_up l k1 _ hk1' (l.length + 1 + K + 60001)
    rwa [show k1 + (l.length + 1 + K + 60001) = k1 + (l.length + 1) + K + 60001 by omega] at h
  · have h := decL_up l (l.length + 1) 0 [] _ hr (k1 + K + 60001)
    rwa [show l.length + 1 + (k1 + K + 60001) = k1 + (l.length + 1) + K + 60001 by omega] at h
  · exact eq_instr_f x (by omega) _ (by omega)
  · exact fun hc => hK hc _ (by omega)
  · exact eq_bytes_f l hlen _ (by omega)
end Go.Proofs.YtepcdjaghoclfaaDoor.My
