/- The program's Decode and the reference's Decoded answer alike, as plain functions. Conditions: the bytes are bytes, of which there are at most as many as a slice can hold. -/
import Derived.Test.YtepcdjaghoclfaaDoorMyU
namespace Go.Proofs.YtepcdjaghoclfaaDoor.My
open Go.RowKit Go.Proofs.YtepcdjaghoclfaaDoorW.PrintWords Go.Proofs.YtepcdjaghoclfaaDoorW.PrintLast Go.Proofs.YtepcdjaghoclfaaDoorW.PrintMore Go.Proofs.YtepcdjaghoclfaaDoor.POpcodeDecodeMatchesSpec
set_option linter.unusedVariables false
set_option linter.unusedSimpArgs false

/-- Some number of rounds is enough. -/
def Ends {α : Type} (g : Nat → Option α) (r : α) : Prop := ∃ k, g k = some r

theorem wrap_rd {l : List Int} (hl : ∀ x ∈ l, 0 ≤ x ∧ x ≤ 255) (i : Int) : wrap64 (rd l i) = rd l i := by
  have := rd_byte hl i
  unfold wrap64
  omega
theorem wrap_up {i : Int} (h0 : 0 ≤ i) (h1 : i ≤ 140737488351232) : wrap64 (i + 1) = i + 1 := by unfold wrap64; omega
theorem pow_small (t : Nat) (ht : t ≤ 2) : (0 : Int) < 128 ^ t ∧ (128 : Int) ^ t ≤ 16384 := by
  obtain rfl | rfl | rfl : t = 0 ∨ t = 1 ∨ t = 2 := by omega
  all_goals decide

section
variable (l : List Int) (hl : ∀ x ∈ l, 0 ≤ x ∧ x ≤ 255) (hlen : l.length ≤ 140737488351232) (out : List S30) (from_ tot op : Int)
include hl hlen

theorem dec_l2 (idx a b : Int) : ∀ (u t : Nat) (i n : Int), t + u = 4 → t ≤ 3 → 0 ≤ i → i ≤ l.length → 0 ≤ n → n < 128 ^ t →
    ((sept l u i n (128 ^ t) t).2.1 ≠ 0 → Ends (fun k => opcode_Decode.l2 k l out entries i from_ idx n (7 * t : Nat) tot idx op a b) ([], (sept l u i n (128 ^ t) t).2.1, from_)) ∧
    ((sept l u i n (128 ^ t) t).2.1 = 0 → 16000 < (sept l u i n (128 ^ t) t).1 → Ends (fun k => opcode_Decode.l2 k l out entries i from_ idx n (7 * t : Nat) tot idx op a b) ([], 16, from_)) ∧
    ((sept l u i n (128 ^ t) t).2.1 = 0 → ¬ 16000 < (sept l u i n (128 ^ t) t).1 → ∀ r, Ends (fun k => opcode_Decode.l1 k l out entries (sept l u i n (128 ^ t) t).2.2 from_ tot (wrap64 (idx + 1)) op (if idx = 0 then (sept l u i n (128 ^ t) t).1 else a) (if idx = 0 then b else (sept l u i n (128 ^ t) t).1)) r → Ends (fun k => opcode_Decode.l2 k l out entries i from_ idx n (7 * t : Nat) tot idx op a b) r) := by
  intro u
  induction u with
  | zero => intro t i n h1 h2; omega
  | succ u ih =>
    intro t i n htu ht h0 h1 hn0 hn1
    obtain ⟨hc0, hc1⟩ := rd_byte hl i
    have hw := wrap_rd hl i
    have hwi := wrap_up h0 (by omega)
    rw [sept]
    by_cases ha : (l.length : Int) ≤ i
    · rw [if_pos ha]
      refine ⟨fun _ => ⟨1, ?_⟩, fun h => absurd h (by simp), fun h => absurd h (by simp)⟩
      simp only [opcode_Decode.l2]
      rw [if_pos ha]
      rfl
    · rw [if_neg ha]
      by_cases h3 : (t : Int) = 3
      · rw [if_pos h3]
        refine ⟨fun _ => ⟨1, ?_⟩, fun h => absurd h (by simp), fun h => absurd h (by simp)⟩
        simp only [opcode_Decode.l2]
        rw [if_neg ha, if_pos (by omega)]
        rfl
      · rw [if_neg h3]
        have ht2 : t ≤ 2 := by omega
        have hor := group_or t n (rd l i) ht2 hn0 hn1 hc0 hc1
        obtain ⟨hp0, hp1⟩ := pow_small t ht2
        by_cases hb : rd l i < 128
        · rw [if_pos hb]
          by_cases hz : rd l i = 0 ∧ 0 < (t : Int)
          · rw [if_pos hz]
            refine ⟨fun _ => ⟨1, ?_⟩, fun h => absurd h (by simp), fun h => absurd h (by simp)⟩
            simp only [opcode_Decode.l2]
            rw [hw, if_neg ha, if_neg (by omega), if_pos h0, if_pos (by omega), if_pos (by omega), if_pos hb, if_pos hz.1, if_pos (by omega)]
            rfl
          · rw [if_neg hz]
            obtain ⟨v, hv⟩ : ∃ v, v = n + rd l i % 128 * 128 ^ t := ⟨_, rfl⟩
            rw [← hv] at hor ⊢
            refine ⟨fun h => absurd rfl h, fun _ hbig => ⟨1, ?_⟩, fun _ hbig r hr => ?_⟩
            · have hbig' : 16000 < v := hbig
              simp only [opcode_Decode.l2]
              rw [hw, hor, if_neg ha, if_neg (by omega), if_pos h0, if_pos (by omega), if_pos (by omega), if_pos hb]
              by_cases hz0 : rd l i = 0
              · rw [if_pos hz0, if_neg (by omega), if_pos hbig']
                rfl
              · rw [if_neg hz0, if_pos hbig']
                rfl
            · have hbig' : ¬ 16000 < v := hbig
              obtain ⟨k, hk⟩ := hr
              refine ⟨k + 1, ?_⟩
              have hk' : opcode_Decode.l1 k l out entries (i + 1) from_ tot (wrap64 (idx + 1)) op (if idx = 0 then v else a) (if idx = 0 then b else v) = some r := hk
              simp only [opcode_Decode.l2]
              rw [hw, hor, hwi, if_neg ha, if_neg (by omega), if_pos h0, if_pos (by omega), if_pos (by omega), if_pos hb]
              by_cases hi : idx = 0
              · rw [if_pos hi, if_pos hi] at hk'
                by_cases hz0 : rd l i = 0
                · rw [if_pos hz0, if_neg (by omega), if_neg hbig', if_pos hi]
                  exact hk'
                · rw [if_neg hz0, if_neg hbig', if_pos hi]
                  exact hk'
              · rw [if_neg hi, if_neg hi] at hk'
                by_cases hz0 : rd l i = 0
                · rw [if_pos hz0, if_neg (by omega), if_neg hbig', if_neg hi]
                  exact hk'
                · rw [if_neg hz0, if_neg hbig', if_neg hi]
                  exact hk'
        · rw [if_neg hb]
          have hmul : (128 : Int) ^ t * 128 = 128 ^ (t + 1) := (Int.pow_succ 128 t).symm
          obtain ⟨v, hv⟩ : ∃ v, v = n + rd l i % 128 * 128 ^ t := ⟨_, rfl⟩
          obtain ⟨s1, s2, s3⟩ := sum_bounds hc0 hn0 rfl hn1 (by omega : t < 3)
          rw [← hv] at hor s1 s3 ⊢
          rw [hmul]
          have ht1 : ((t : Int) + 1) = ((t + 1 : Nat) : Int) := by omega
          rw [ht1]
          have step : ∀ k, opcode_Decode.l2 (k + 1) l out entries i from_ idx n (7 * t : Nat) tot idx op a b = opcode_Decode.l2 k l out entries (i + 1) from_ idx v (7 * (t + 1) : Nat) tot idx op a b := by
            intro k
            have hsh : wrap64 (((7 * t : Nat) : Int) + 7) = ((7 * (t + 1) : Nat) : Int) := by unfold wrap64; omega
            simp only [opcode_Decode.l2]
            rw [hw, hor, hwi, hsh, if_neg ha, if_neg (by omega), if_pos h0, if_pos (by omega), if_pos (by omega), if_neg hb]
          obtain ⟨e1, e2, e3⟩ := ih (t + 1) (i + 1) v (by omega) (by omega) (by omega) (by omega) s1 s3
          refine ⟨fun h => ?_, fun h h' => ?_, fun h h' r hr => ?_⟩
          · obtain ⟨k, hk⟩ := e1 h
            exact ⟨k + 1, (step k).trans hk⟩
          · obtain ⟨k, hk⟩ := e2 h h'
            exact ⟨k + 1, (step k).trans hk⟩
          · obtain ⟨k, hk⟩ := e3 h h' r hr
            exact ⟨k + 1, (step k).trans hk⟩

theorem dec_l1 (hout : out.length < 60000) (htot : tot ≤ 2) : ∀ (m idx : Nat) (i a b : Int), (idx : Int) + m = tot → 0 ≤ i → i ≤ l.length →
    ((given l m idx i a b).1 ≠ 0 → Ends (fun k => opcode_Decode.l1 k l out entries i from_ tot idx op a b) ([], (given l m idx i a b).1, from_)) ∧
    ((given l m idx i a b).1 = 0 → ∀ r, Ends (fun k => opcode_Decode.l0 k l (out ++ [⟨op, (given l m idx i a b).2.1, (given l m idx i a b).2.2.1⟩]) entries (given l m idx i a b).2.2.2) r → Ends (fun k => opcode_Decode.l1 k l out entries i from_ tot idx op a b) r) := by
  intro m
  induction m with
  | zero =>
    intro idx i a b hm h0 h1
    rw [given]
    refine ⟨fun h => absurd rfl h, fun _ r hr => ?_⟩
    obtain ⟨k, hk⟩ := hr
    refine ⟨k + 1, ?_⟩
    simp only [opcode_Decode.l1]
    rw [if_neg (by omega), if_pos (by omega)]
    exact hk
  | succ m ih =>
    intro idx i a b hm h0 h1
    have step : ∀ k, opcode_Decode.l1 (k + 1) l out entries i from_ tot idx op a b = opcode_Decode.l2 k l out entries i from_ idx 0 (7 * 0 : Nat) tot idx op a b := by
      intro k
      simp only [opcode_Decode.l1]
      rw [if_pos (by omega)]
      rfl
    have e0 := dec_l2 l hl hlen out from_ tot op idx a b 4 0 i 0 (by omega) (by omega) h0 h1 (by omega) (by decide)
    rw [show ((128 : Int) ^ 0) = 1 from rfl, show (((0 : Nat) : Int)) = 0 from rfl] at e0
    obtain ⟨e1, e2, e3⟩ := e0
    have hb := sept_bounds l 4 i 0 1 0 h0 h1
    rw [given]
    obtain ⟨S, hS⟩ : ∃ S, S = sept l 4 i 0 1 0 := ⟨_, rfl⟩
    rw [← hS] at e1 e2 e3 hb ⊢
    by_cases hs0 : S.2.1 = 0
    · rw [if_pos hs0]
      by_cases hbig : 16000 < S.1
      · rw [if_pos hbig]
        refine ⟨fun _ => ?_, fun h => absurd h (by simp)⟩
        obtain ⟨k, hk⟩ := e2 hs0 hbig
        exact ⟨k + 1, (step k).trans hk⟩
      · rw [if_neg hbig]
        have hwi : wrap64 ((idx : Int) + 1) = ((idx + 1 : Nat) : Int) := by unfold wrap64; omega
        have e4 := e3 hs0 hbig
        rw [hwi] at e4
        by_cases hi : idx = 0
        · rw [if_pos hi]
          rw [if_pos (by omega : (idx : Int) = 0), if_pos (by omega : (idx : Int) = 0)] at e4
          obtain ⟨f1, f2⟩ := ih (idx + 1) S.2.2 S.1 b (by omega) hb.1 hb.2
          refine ⟨fun h => ?_, fun h r hr => ?_⟩
          · obtain ⟨k, hk⟩ := e4 _ (f1 h)
            exact ⟨k + 1, (step k).trans hk⟩
          · obtain ⟨k, hk⟩ := e4 _ (f2 h r hr)
            exact ⟨k + 1, (step k).trans hk⟩
        · rw [if_neg hi]
          rw [if_neg (by omega : ¬ (idx : Int) = 0), if_neg (by omega : ¬ (idx : Int) = 0)] at e4
          obtain ⟨f1, f2⟩ := ih (idx + 1) S.2.2 a S.1 (by omega) hb.1 hb.2
          refine ⟨fun h => ?_, fun h r hr => ?_⟩
          · obtain ⟨k, hk⟩ := e4 _ (f1 h)
            exact ⟨k + 1, (step k).trans hk⟩
          · obtain ⟨k, hk⟩ := e4 _ (f2 h r hr)
            exact ⟨k + 1, (step k).trans hk⟩
    · rw [if_neg hs0]
      refine ⟨fun _ => ?_, fun h => absurd h hs0⟩
      obtain ⟨k, hk⟩ := e1 hs0
      exact ⟨k + 1, (step k).trans hk⟩
end

theorem given_bounds (l : List Int) : ∀ (m idx : Nat) (i a b : Int), 0 ≤ i → i ≤ l.length → 0 ≤ (given l m idx i a b).2.2.2 ∧ (given l m idx i a b).2.2.2 ≤ l.length := by
  intro m
  induction m with
  | zero => intro idx i a b h0 h1; exact ⟨h0, h1⟩
  | succ m ih =>
    intro idx i a b h0 h1
    have hb := sept_bounds l 4 i 0 1 0 h0 h1
    rw [given]
    split
    · split
      · exact ⟨h0, h1⟩
      · split
        · exact ih _ _ _ _ hb.1 hb.2
        · exact ih _ _ _ _ hb.1 hb.2
    · exact ⟨h0, h1⟩

theorem dec_l0 (l : List Int) (hl : ∀ x ∈ l, 0 ≤ x ∧ x ≤ 255) (hlen : l.length ≤ 140737488351232) : ∀ (f : Nat) (i : Int) (out : List S30) (r : List S30 × Int × Int), 0 ≤ i → i ≤ l.length → out.length ≤ 60000 → decL l f i out = some r → Ends (fun k => opcode_Decode.l0 k l out entries i) r := by
  intro f
  induction f with
  | zero => intro i out r h0 h1 ho h; rw [decL] at h; cases h
  | succ f ih =>
    intro i out r h0 h1 ho h
    rw [decL] at h
    obtain ⟨hc0, hc1⟩ := rd_byte hl i
    have hw := wrap_rd hl i
    by_cases hlt : i < (l.length : Int)
    · rw [if_pos hlt] at h
      have hwi := wrap_up h0 (by omega : i ≤ 140737488351232)
      have hin : opcode_within.f (rd l i) (entries.length : Int) = some (decide (rd l i < 80)) := by
        unfold opcode_within.f
        rw [if_pos hc0, entries_length]
      by_cases h80 : 80 ≤ rd l i
      · rw [if_pos h80] at h
        refine ⟨1, ?_⟩
        simp only [opcode_Decode.l0]
        rw [hw, if_pos hlt, if_pos h0, hin, decide_eq_false (by omega), ← h]
        rfl
      · rw [if_neg h80] at h
        by_cases hout : out.length = 60000
        · rw [if_pos hout] at h
          refine ⟨1, ?_⟩
          simp only [opcode_Decode.l0]
          rw [hw, if_pos hlt, if_pos h0, hin, decide_eq_true (by omega), ← h]
          simp only [Option.bind_some]
          rw [if_pos True.intro, if_pos (by omega)]
          rfl
        · rw [if_neg hout] at h
          have hop := operands_cnt (rd l i) hc0 (by omega)
          obtain ⟨e1, e2⟩ := dec_l1 l hl hlen out i (cnt (rd l i)) (rd l i) (by omega) (by have := cnt_le (rd l i); omega) (cnt (rd l i)) 0 (i + 1) 0 0 (by omega) (by omega) (by omega)
          have step : ∀ k, opcode_Decode.l0 (k + 1) l out entries i = opcode_Decode.l1 k l out entries (i + 1) i (cnt (rd l i)) (0 : Nat) (rd l i) 0 0 := by
            intro k
            simp only [opcode_Decode.l0]
            rw [hw, if_pos hlt, if_pos h0, hin, decide_eq_true (by omega)]
            simp only [Option.bind_some]
            rw [if_pos True.intro, if_neg (by omega), if_pos hc0, entries_length, if_pos (by omega), hop, hwi]
            rfl
          by_cases hg : (given l (cnt (rd l i)) 0 (i + 1) 0 0).1 = 0
          · rw [if_pos hg] at h
            have hb := given_bounds l (cnt (rd l i)) 0 (i + 1) 0 0 (by omega) (by omega)
            obtain ⟨k, hk⟩ := e2 hg r (ih _ _ r hb.1 hb.2 (by simp; omega) h)
            exact ⟨k + 1, (step k).trans hk⟩
          · rw [if_neg hg] at h
            obtain rfl := Option.some.inj h
            obtain ⟨k, hk⟩ := e1 hg
            exact ⟨k + 1, (step k).trans hk⟩
    · rw [if_neg hlt] at h
      refine ⟨1, ?_⟩
      simp only [opcode_Decode.l0]
      rw [if_neg hlt, ← h]

/-- The reference's function ends: the place moves on. -/
theorem sept_moves (l : List Int) : ∀ (f : Nat) (i n wt k : Int), (sept l f i n wt k).2.1 = 0 → i < (sept l f i n wt k).2.2 := by
  intro f
  induction f with
  | zero => intro i n wt k h; exact absurd h (by simp [sept])
  | succ f ih =>
    intro i n wt k h
    rw [sept] at h ⊢
    by_cases a : (l.length : Int) ≤ i
    · rw [if_pos a] at h; exact absurd h (by simp)
    · rw [if_neg a] at h ⊢
      by_cases b : k = 3
      · rw [if_pos b] at h; exact absurd h (by simp)
      · rw [if_neg b] at h ⊢
        by_cases c : rd l i < 128
        · rw [if_pos c] at h ⊢
          by_cases d : rd l i = 0 ∧ 0 < k
          · rw [if_pos d] at h; exact absurd h (by simp)
          · rw [if_neg d]; show i < i + 1; omega
        · rw [if_neg c] at h ⊢
          have := ih _ _ _ _ h
          omega
theorem given_moves (l : List Int) : ∀ (m idx : Nat) (i a b : Int), i ≤ (given l m idx i a b).2.2.2 := by
  intro m
  induction m with
  | zero => intro idx i a b; exact Int.le_refl _
  | succ m ih =>
    intro idx i a b
    rw [given]
    by_cases h : (sept l 4 i 0 1 0).2.1 = 0
    · have hm := sept_moves l 4 i 0 1 0 h
      rw [if_pos h]
      split
      · exact Int.le_refl _
      · split
        · exact Int.le_trans (Int.le_of_lt hm) (ih _ _ _ _)
        · exact Int.le_trans (Int.le_of_lt hm) (ih _ _ _ _)
    · rw [if_neg h]
      exact Int.le_refl _
theorem dec_ends (l : List Int) : ∀ (f : Nat) (i : Int) (out : List S30), 0 ≤ i → i ≤ l.length → (l.length : Int) - i < f → ∃ r, decL l f i out = some r := by
  intro f
  induction f with
  | zero => intro i out h0 h1 hf; omega
  | succ f ih =>
    intro i out h0 h1 hf
    rw [decL]
    split
    rename_i hlt
    · split
      · exact ⟨_, rfl⟩
      · split
        · exact ⟨_, rfl⟩
        · split
          · have hm := given_moves l (cnt (rd l i)) 0 (i + 1) 0 0
            have hb := given_bounds l (cnt (rd l i)) 0 (i + 1) 0 0 (by omega) (by omega)
            exact ih _ _ hb.1 hb.2 (by omega)
          · exact ⟨_, rfl⟩
    · exact ⟨_, rfl⟩
end Go.Proofs.YtepcdjaghoclfaaDoor.My
