/- What was decoded is encoded as the same bytes, as plain functions. Conditions: the bytes are bytes, of which there are at most as many as a slice can hold. -/
import Derived.Test.YtepcdjaghoclfaaDoorMyV
namespace Go.Proofs.YtepcdjaghoclfaaDoor.My
open Go.RowKit Go.Proofs.YtepcdjaghoclfaaDoorW.PrintWords Go.Proofs.YtepcdjaghoclfaaDoorW.PrintLast Go.Proofs.YtepcdjaghoclfaaDoorW.PrintMore Go.Proofs.YtepcdjaghoclfaaDoor.POpcodeDecodeMatchesSpec
set_option linter.unusedVariables false
set_option linter.unusedSimpArgs false

/-- From some number of rounds on. -/
def Evt {α : Type} (g : Nat → Option α) (r : α) : Prop := ∃ K, ∀ k, K ≤ k → g k = some r

/-! ### The bytes of a number -/
def vb (v : Int) : List Int := if v < 128 then [v] else if v < 16384 then [v % 128 + 128, v / 128] else [v % 128 + 128, v / 128 % 128 + 128, v / 16384]

theorem drop_rd (l : List Int) (i : Int) (h0 : 0 ≤ i) (h1 : i < l.length) : l.drop i.toNat = rd l i :: l.drop (i + 1).toNat := by
  have h : i.toNat < l.length := by omega
  rw [List.drop_eq_getElem_cons h]
  congr 1
  · unfold rd
    rw [List.getD_eq_getElem?_getD, List.getElem?_eq_getElem h]
    rfl
  · congr 1
    omega

theorem sept_more (l : List Int) (f : Nat) (i n wt k : Int) (h1 : i < l.length) (h3 : k ≠ 3) (hc : ¬ rd l i < 128) : sept l (f + 1) i n wt k = sept l f (i + 1) (n + rd l i % 128 * wt) (wt * 128) (k + 1) := by
  rw [sept, if_neg (by omega), if_neg h3, if_neg hc]
theorem sept_last (l : List Int) (f : Nat) (i n wt k : Int) (h1 : i < l.length) (h3 : k ≠ 3) (hc : rd l i < 128) (hz : ¬ (rd l i = 0 ∧ 0 < k)) : sept l (f + 1) i n wt k = (n + rd l i % 128 * wt, 0, i + 1) := by
  rw [sept, if_neg (by omega), if_neg h3, if_pos hc, if_neg hz]
theorem sept_ok (l : List Int) (f : Nat) (i n wt k : Int) (h : (sept l (f + 1) i n wt k).2.1 = 0) : i < l.length ∧ k ≠ 3 ∧ (rd l i < 128 → ¬ (rd l i = 0 ∧ 0 < k)) := by
  rw [sept] at h
  by_cases a : (l.length : Int) ≤ i
  · rw [if_pos a] at h; exact absurd h (by simp)
  · rw [if_neg a] at h
    by_cases b : k = 3
    · rw [if_pos b] at h; exact absurd h (by simp)
    · rw [if_neg b] at h
      refine ⟨by omega, b, fun c d => ?_⟩
      rw [if_pos c, if_pos d] at h
      exact absurd h (by simp)

theorem sept_bytes (l : List Int) (hl : ∀ x ∈ l, 0 ≤ x ∧ x ≤ 255) (i : Int) (h0 : 0 ≤ i) (h : (sept l 4 i 0 1 0).2.1 = 0) :
    0 ≤ (sept l 4 i 0 1 0).1 ∧ l.drop i.toNat = vb (sept l 4 i 0 1 0).1 ++ l.drop (sept l 4 i 0 1 0).2.2.toNat := by
  obtain ⟨a1, a2, a3⟩ := sept_ok l 3 i 0 1 0 h
  obtain ⟨c0, c1⟩ := rd_byte hl i
  have d0 := drop_rd l i h0 a1
  by_cases c : rd l i < 128
  · have e := sept_last l 3 i 0 1 0 a1 a2 c (a3 c)
    rw [e, d0]
    have e1 : 0 + rd l i % 128 * 1 = rd l i := by omega
    refine ⟨by show 0 ≤ 0 + rd l i % 128 * 1; omega, ?_⟩
    show _ = vb (0 + rd l i % 128 * 1) ++ l.drop (i + 1).toNat
    rw [e1, vb, if_pos c]
    rfl
  · have e := sept_more l 3 i 0 1 0 a1 a2 c
    rw [e] at h ⊢
    obtain ⟨b1, b2, b3⟩ := sept_ok l 2 _ _ _ _ h
    obtain ⟨g0, g1⟩ := rd_byte hl (i + 1)
    have d1 := drop_rd l (i + 1) (by omega) b1
    by_cases g : rd l (i + 1) < 128
    · have gz := b3 g
      have e2 := sept_last l 2 (i + 1) (0 + rd l i % 128 * 1) (1 * 128) (0 + 1) b1 b2 g gz
      rw [e2, d0, d1]
      obtain ⟨v, hv⟩ : ∃ v, v = 0 + rd l i % 128 * 1 + rd l (i + 1) % 128 * (1 * 128) := ⟨_, rfl⟩
      have gp : 1 ≤ rd l (i + 1) := by omega
      have v1 : v % 128 + 128 = rd l i := by omega
      have v2 : v / 128 = rd l (i + 1) := by omega
      rw [← hv]
      refine ⟨by show 0 ≤ v; omega, ?_⟩
      show _ = vb v ++ l.drop (i + 1 + 1).toNat
      rw [vb, if_neg (by omega), if_pos (by omega), v1, v2]
      rfl
    · have e2 := sept_more l 2 (i + 1) (0 + rd l i % 128 * 1) (1 * 128) (0 + 1) b1 b2 g
      rw [e2] at h ⊢
      obtain ⟨f1, f2, f3⟩ := sept_ok l 1 _ _ _ _ h
      obtain ⟨q0, q1⟩ := rd_byte hl (i + 1 + 1)
      have d2 := drop_rd l (i + 1 + 1) (by omega) f1
      by_cases q : rd l (i + 1 + 1) < 128
      · have qz := f3 q
        have e3 := sept_last l 1 (i + 1 + 1) (0 + rd l i % 128 * 1 + rd l (i + 1) % 128 * (1 * 128)) (1 * 128 * 128) (0 + 1 + 1) f1 f2 q qz
        rw [e3, d0, d1, d2]
        obtain ⟨v, hv⟩ : ∃ v, v = 0 + rd l i % 128 * 1 + rd l (i + 1) % 128 * (1 * 128) + rd l (i + 1 + 1) % 128 * (1 * 128 * 128) := ⟨_, rfl⟩
        have qp : 1 ≤ rd l (i + 1 + 1) := by omega
        have v1 : v % 128 + 128 = rd l i := by omega
        have v2 : v / 128 % 128 + 128 = rd l (i + 1) := by omega
        have v3 : v / 16384 = rd l (i + 1 + 1) := by omega
        rw [← hv]
        refine ⟨by show 0 ≤ v; omega, ?_⟩
        show _ = vb v ++ l.drop (i + 1 + 1 + 1).toNat
        rw [vb, if_neg (by omega), if_neg (by omega), v1, v2, v3]
        rfl
      · have e3 := sept_more l 1 (i + 1 + 1) (0 + rd l i % 128 * 1 + rd l (i + 1) % 128 * (1 * 128)) (1 * 128 * 128) (0 + 1 + 1) f1 f2 q
        rw [e3] at h
        obtain ⟨_, x2, _⟩ := sept_ok l 0 _ _ _ _ h
        exact absurd (by omega) x2

/-! ### The bytes of an instruction -/
def ob (m : Nat) (a b : Int) : List Int := match m with
  | 0 => []
  | 1 => vb a
  | _ => vb a ++ vb b
structure Good (e : S30) : Prop where
  op0 : 0 ≤ e.f0
  op1 : e.f0 < 80
  a0 : 0 ≤ e.f1
  a1 : e.f1 ≤ 16000
  b0 : 0 ≤ e.f2
  b1 : e.f2 ≤ 16000
  za : cnt e.f0 < 1 → e.f1 = 0
  zb : cnt e.f0 < 2 → e.f2 = 0
def eb (e : S30) : List Int := e.f0 :: ob (cnt e.f0) e.f1 e.f2

theorem given_bytes (l : List Int) (hl : ∀ x ∈ l, 0 ≤ x ∧ x ≤ 255) (m : Nat) (hm : m ≤ 2) (i : Int) (h0 : 0 ≤ i) (h1 : i ≤ l.length) (h : (given l m 0 i 0 0).1 = 0) :
    0 ≤ (given l m 0 i 0 0).2.1 ∧ (given l m 0 i 0 0).2.1 ≤ 16000 ∧ 0 ≤ (given l m 0 i 0 0).2.2.1 ∧ (given l m 0 i 0 0).2.2.1 ≤ 16000 ∧ (m < 1 → (given l m 0 i 0 0).2.1 = 0) ∧ (m < 2 → (given l m 0 i 0 0).2.2.1 = 0) ∧
    l.drop i.toNat = ob m (given l m 0 i 0 0).2.1 (given l m 0 i 0 0).2.2.1 ++ l.drop (given l m 0 i 0 0).2.2.2.toNat := by
  have hs := sept_bytes l hl i h0
  have hb := sept_bounds l 4 i 0 1 0 h0 h1
  obtain rfl | rfl | rfl : m = 0 ∨ m = 1 ∨ m = 2 := by omega
  · exact ⟨by show (0 : Int) ≤ 0; omega, by show (0 : Int) ≤ 16000; omega, by show (0 : Int) ≤ 0; omega, by show (0 : Int) ≤ 16000; omega, fun _ => rfl, fun _ => rfl, rfl⟩
  · rw [given] at h ⊢
    obtain ⟨S, hS⟩ : ∃ S, S = sept l 4 i 0 1 0 := ⟨_, rfl⟩
    rw [← hS] at h hs hb ⊢
    by_cases hs0 : S.2.1 = 0
    · rw [if_pos hs0] at h ⊢
      by_cases hbig : 16000 < S.1
      · rw [if_pos hbig] at h; exact absurd h (by simp)
      · rw [if_neg hbig, if_pos rfl] at h ⊢
        obtain ⟨t0, t1⟩ := hs hs0
        exact ⟨t0, by show S.1 ≤ 16000; omega, by show (0 : Int) ≤ 0; omega, by show (0 : Int) ≤ 16000; omega, fun h => by omega, fun _ => rfl, t1⟩
    · rw [if_neg hs0] at h; exact absurd h hs0
  · rw [given] at h ⊢
    obtain ⟨S, hS⟩ : ∃ S, S = sept l 4 i 0 1 0 := ⟨_, rfl⟩
    rw [← hS] at h hs hb ⊢
    by_cases hs0 : S.2.1 = 0
    · rw [if_pos hs0] at h ⊢
      by_cases hbig : 16000 < S.1
      · rw [if_pos hbig] at h; exact absurd h (by simp)
      · rw [if_neg hbig, if_pos rfl] at h ⊢
        obtain ⟨t0, t1⟩ := hs hs0
        have hs2 := sept_bytes l hl S.2.2 hb.1
        rw [given] at h ⊢
        obtain ⟨R, hR⟩ : ∃ R, R = sept l 4 S.2.2 0 1 0 := ⟨_, rfl⟩
        rw [← hR] at h hs2 ⊢
        by_cases hr0 : R.2.1 = 0
        · rw [if_pos hr0] at h ⊢
          by_cases hbig2 : 16000 < R.1
          · rw [if_pos hbig2] at h; exact absurd h (by simp)
          · rw [if_neg hbig2, if_neg (by decide)] at h ⊢
            obtain ⟨r0, r1⟩ := hs2 hr0
            refine ⟨t0, by show S.1 ≤ 16000; omega, r0, by show R.1 ≤ 16000; omega, fun h => by omega, fun h => by omega, ?_⟩
            show _ = (vb S.1 ++ vb R.1) ++ l.drop R.2.2.toNat
            rw [t1, r1, List.append_assoc]
        · rw [if_neg hr0] at h; exact absurd h hr0
    · rw [if_neg hs0] at h; exact absurd h hs0

theorem dec_bytes (l : List Int) (hl : ∀ x ∈ l, 0 ≤ x ∧ x ≤ 255) : ∀ (f : Nat) (i : Int) (out x : List S30) (d : Int), 0 ≤ i → i ≤ l.length → out.length ≤ 60000 → decL l f i out = some (x, 0, d) →
    ∃ rest, x = out ++ rest ∧ x.length ≤ 60000 ∧ (∀ e ∈ rest, Good e) ∧ l.drop i.toNat = rest.flatMap eb := by
  intro f
  induction f with
  | zero => intro i out x d h0 h1 ho h; rw [decL] at h; cases h
  | succ f ih =>
    intro i out x d h0 h1 ho h
    rw [decL] at h
    by_cases hlt : i < (l.length : Int)
    · rw [if_pos hlt] at h
      by_cases h80 : 80 ≤ rd l i
      · rw [if_pos h80] at h; exact absurd (congrArg (fun r => r.2.1) (Option.some.inj h)) (by simp)
      · rw [if_neg h80] at h
        by_cases hout : out.length = 60000
        · rw [if_pos hout] at h; exact absurd (congrArg (fun r => r.2.1) (Option.some.inj h)) (by simp)
        · rw [if_neg hout] at h
          have hgb := given_bytes l hl (cnt (rd l i)) (cnt_le _) (i + 1) (by omega) (by omega)
          have hb := given_bounds l (cnt (rd l i)) 0 (i + 1) 0 0 (by omega) (by omega)
          obtain ⟨G, hG⟩ : ∃ G, G = given l (cnt (rd l i)) 0 (i + 1) 0 0 := ⟨_, rfl⟩
          rw [← hG] at h hgb hb
          by_cases hg : G.1 = 0
          · rw [if_pos hg] at h
            obtain ⟨g1, g2, g3, g4, g5, g6, g7⟩ := hgb hg
            obtain ⟨rest, r1, r2, r3, r4⟩ := ih _ _ x d hb.1 hb.2 (by simp; omega) h
            refine ⟨⟨rd l i, G.2.1, G.2.2.1⟩ :: rest, by rw [r1]; simp, r2, ?_, ?_⟩
            · intro e he
              rcases List.mem_cons.1 he with rfl | he
              · exact ⟨(rd_byte hl i).1, by show rd l i < 80; omega, g1, g2, g3, g4, g5, g6⟩
              · exact r3 e he
            · rw [drop_rd l i h0 hlt, g7, r4]
              rfl
          · rw [if_neg hg] at h; exact absurd (congrArg (fun r => r.2.1) (Option.some.inj h)) hg
    · rw [if_neg hlt] at h
      have hx : x = out := (congrArg (fun r => r.1) (Option.some.inj h)).symm
      exact ⟨[], by rw [hx]; simp, by rw [hx]; exact ho, fun e he => by simp at he, by rw [List.drop_of_length_le (by omega)]; rfl⟩

/-! ### Encoding -/
theorem varint_vb (acc : List Int) (v : Int) (h0 : 0 ≤ v) (h1 : v < 2097152) (ha : acc.length + 3 ≤ 140737488355328) (k : Nat) (hk : 3 ≤ k) : opcode_varint.f k acc v = some (acc ++ vb v) := by
  obtain ⟨k, rfl⟩ : ∃ m, k = m + 3 := ⟨k - 3, by omega⟩
  have big : ∀ x : Int, 0 ≤ x → x < 2097152 → (Go.bits .or .i64 (Go.bits .and .i64 x 127) 128) % 256 = x % 128 + 128 := by
    intro x hx0 hx1
    rw [and127 x hx0 (by omega), or128 (x % 128) (by omega) (by omega)]
    omega
  have last : ∀ (j : Nat) (a : List Int) (x : Int), 0 ≤ x → x < 128 → a.length < 140737488355328 → opcode_varint.l0 (j + 1) a x = some (a ++ [x]) := by
    intro j a x hx0 hx1 hal
    simp only [opcode_varint.l0]
    rw [if_neg (by omega), if_pos hal]
    have e : x % 256 = x := by omega
    rw [e]
  have more : ∀ (j : Nat) (a : List Int) (x : Int), 128 ≤ x → x < 2097152 → a.length < 140737488355328 → opcode_varint.l0 (j + 1) a x = opcode_varint.l0 j (a ++ [x % 128 + 128]) (x / 128) := by
    intro j a x hx0 hx1 hal
    simp only [opcode_varint.l0]
    rw [if_pos (by omega), if_pos hal, big x (by omega) hx1]
  unfold opcode_varint.f
  by_cases a : v < 128
  · rw [last (k + 2) acc v h0 a (by omega), vb, if_pos a]
  · rw [more (k + 2) acc v (by omega) h1 (by omega)]
    by_cases b : v < 16384
    · rw [last (k + 1) _ (v / 128) (by omega) (by omega) (by simp; omega), vb, if_neg a, if_pos b, List.append_assoc]
      rfl
    · rw [more (k + 1) _ (v / 128) (by omega) (by omega) (by simp; omega), last k _ (v / 128 / 128) (by omega) (by omega) (by simp; omega), vb, if_neg a, if_neg b, List.append_assoc, List.append_assoc]
      have e : v / 128 / 128 = v / 16384 := by omega
      rw [e]
      rfl

theorem vb_length (v : Int) : (vb v).length ≤ 3 := by
  unfold vb
  split
  · simp
  · split <;> simp

theorem enc_l1 (x : List S30) (n j : Int) (y : List Int) (hy : y.length ≤ 2) (hv : ∀ v ∈ y, 0 ≤ v ∧ v < 2097152) (r : List Int × Int × Int) : ∀ (q : Nat) (p : Int) (acc : List Int), 0 ≤ p → (p : Int) + q = y.length → acc.length + 3 * q ≤ 140737488355328 →
    Evt (fun k => opcode_Encode.l0 k (acc ++ (y.drop p.toNat).flatMap vb) entries x n (wrap64 (j + 1))) r → Evt (fun k => opcode_Encode.l1 k acc entries x n j y (y.length : Int) p) r := by
  intro q
  induction q with
  | zero =>
    intro p acc h0 hp ha h
    obtain ⟨K, hK⟩ := h
    refine ⟨K + 1, fun k hk => ?_⟩
    obtain ⟨k, rfl⟩ : ∃ m, k = m + 1 := ⟨k - 1, by omega⟩
    have h2 := hK k (by omega)
    rw [List.drop_of_length_le (by omega)] at h2
    simp only [opcode_Encode.l1]
    rw [if_neg (by omega)]
    simpa using h2
  | succ q ih =>
    intro p acc h0 hp ha h
    have hlt : p < y.length := by omega
    have hd := drop_rd y p h0 hlt
    have hm : 0 ≤ rd y p ∧ rd y p < 2097152 := by
      refine hv _ ?_
      have : rd y p ∈ y.drop p.toNat := by rw [hd]; exact List.mem_cons_self
      exact List.mem_of_mem_drop this
    have hw : wrap64 (p + 1) = p + 1 := by unfold wrap64; omega
    have h2 : Evt (fun k => opcode_Encode.l1 k (acc ++ vb (rd y p)) entries x n j y (y.length : Int) (p + 1)) r := by
      refine ih (p + 1) (acc ++ vb (rd y p)) (by omega) (by omega) ?_ ?_
      · have := vb_length (rd y p)
        rw [List.length_append]
        omega
      · rw [hd] at h
        simpa [List.append_assoc] using h
    obtain ⟨K, hK⟩ := h2
    refine ⟨K + 4, fun k hk => ?_⟩
    obtain ⟨k, rfl⟩ : ∃ m, k = m + 1 := ⟨k - 1, by omega⟩
    simp only [opcode_Encode.l1]
    rw [if_pos hlt, if_pos h0, if_pos hlt, varint_vb acc (rd y p) hm.1 hm.2 (by omega) k (by omega), hw]
    exact hK k (by omega)

theorem ob_take (m : Nat) (hm : m ≤ 2) (a b : Int) : (([a, b] : List Int).take m).flatMap vb = ob m a b := by
  obtain rfl | rfl | rfl : m = 0 ∨ m = 1 ∨ m = 2 := by omega
  · rfl
  · simp [ob]
  · simp [ob]

theorem enc_l0 (x : List S30) (hx : x.length ≤ 60000) (hg : ∀ e ∈ x, Good e) : ∀ (q : Nat) (j : Int) (acc : List Int), 0 ≤ j → (j : Int) + q = x.length → acc.length + 7 * q ≤ 140737488355328 →
    Evt (fun k => opcode_Encode.l0 k acc entries x (x.length : Int) j) (acc ++ (x.drop j.toNat).flatMap eb, 0, 0) := by
  intro q
  induction q with
  | zero =>
    intro j acc h0 hj ha
    refine ⟨1, fun k hk => ?_⟩
    obtain ⟨k, rfl⟩ : ∃ m, k = m + 1 := ⟨k - 1, by omega⟩
    rw [List.drop_of_length_le (by omega)]
    simp only [opcode_Encode.l0]
    rw [if_neg (by omega)]
    simp
  | succ q ih =>
    intro j acc h0 hj ha
    have hlt : j < x.length := by omega
    have hn : j.toNat < x.length := by omega
    obtain ⟨e, he⟩ : ∃ e, e = rd_T30 x j := ⟨_, rfl⟩
    have hd : x.drop j.toNat = e :: x.drop (j + 1).toNat := by
      rw [List.drop_eq_getElem_cons hn]
      congr 1
      · rw [he]
        unfold rd_T30
        rw [List.getD_eq_getElem?_getD, List.getElem?_eq_getElem hn]
        rfl
      · congr 1
        omega
    have hmem : e ∈ x := by
      have : e ∈ x.drop j.toNat := by rw [hd]; exact List.mem_cons_self
      exact List.mem_of_mem_drop this
    obtain ⟨g1, g2, g3, g4, g5, g6, g7, g8⟩ := hg e hmem
    have hop := operands_cnt e.f0 g1 g2
    have hc2 := cnt_le e.f0
    have hw : wrap64 (j + 1) = j + 1 := by unfold wrap64; omega
    have hin : opcode_within.f e.f0 (entries.length : Int) = some true := by
      unfold opcode_within.f
      rw [if_pos g1, entries_length, decide_eq_true g2]
    obtain ⟨y, hy⟩ : ∃ y, y = ([e.f1, e.f2] : List Int).take (cnt e.f0) := ⟨_, rfl⟩
    have hyl : y.length = cnt e.f0 := by rw [hy, List.length_take]; simp; omega
    have hyv : ∀ v ∈ y, 0 ≤ v ∧ v < 2097152 := by
      intro v hv
      rw [hy] at hv
      have := List.mem_of_mem_take hv
      simp at this
      rcases this with rfl | rfl <;> omega
    have hob : y.flatMap vb = ob (cnt e.f0) e.f1 e.f2 := by rw [hy]; exact ob_take _ hc2 _ _
    have hobl : (ob (cnt e.f0) e.f1 e.f2).length ≤ 6 := by
      have h1 := vb_length e.f1
      have h2 := vb_length e.f2
      unfold ob
      split
      · simp
      · omega
      · rw [List.length_append]; omega
    have h256 : e.f0 % 256 = e.f0 := by omega
    have next : Evt (fun k => opcode_Encode.l0 k ((acc ++ [e.f0]) ++ (y.drop (0 : Int).toNat).flatMap vb) entries x (x.length : Int) (wrap64 (j + 1))) (acc ++ (x.drop j.toNat).flatMap eb, 0, 0) := by
      have h3 := ih (j + 1) ((acc ++ [e.f0]) ++ y.flatMap vb) (by omega) (by omega) (by rw [hob]; simp; omega)
      rw [hw]
      have e1 : (acc ++ [e.f0]) ++ y.flatMap vb ++ (x.drop (j + 1).toNat).flatMap eb = acc ++ (x.drop j.toNat).flatMap eb := by
        rw [hd, hob]
        simp [eb, List.append_assoc]
      rw [e1] at h3
      exact h3
    obtain ⟨K, hK⟩ := enc_l1 x (x.length : Int) j y (by omega) hyv _ y.length 0 (acc ++ [e.f0]) (by omega) (by omega) (by rw [List.length_append]; simp; omega) next
    refine ⟨K + 2, fun k hk => ?_⟩
    obtain ⟨k, rfl⟩ : ∃ m, k = m + 2 := ⟨k - 2, by omega⟩
    have hj1 : opcode_Encode.j1 (k + 1) acc entries j (cnt e.f0) x (x.length : Int) j false e.f0 e.f1 e.f2 = some (acc ++ (x.drop j.toNat).flatMap eb, 0, 0) := by
      simp only [opcode_Encode.j1]
      rw [if_neg (by decide), if_pos (by omega)]
      simp only [Option.bind_some]
      rw [if_pos (by omega), if_pos (by simp; omega)]
      have e2 : ((cnt e.f0 : Int)).toNat = cnt e.f0 := by omega
      rw [e2, ← hy, h256]
      exact hK k (by omega)
    simp only [opcode_Encode.l0]
    rw [← he, if_pos hlt, if_pos h0, if_pos hlt, hin]
    simp only [Option.bind_some]
    rw [if_pos True.intro, if_pos g1, entries_length, if_pos g2, hop]
    simp only [Option.bind_some]
    rw [if_neg (by omega), if_neg (by omega), if_neg (by omega), if_neg (by omega)]
    by_cases c2 : (cnt e.f0 : Int) < 2
    · rw [if_pos c2, if_pos (g8 (by omega))]
      by_cases c1 : (cnt e.f0 : Int) < 1
      · rw [if_pos c1]
        have e3 : (e.f1 != 0) = false := bne_eq_false_iff_eq.mpr (g7 (by omega))
        rw [e3]
        exact hj1
      · rw [if_neg c1]
        exact hj1
    · rw [if_neg c2, if_neg (by omega)]
      exact hj1

theorem enc_f (x : List S30) (hx : x.length ≤ 60000) (hg : ∀ e ∈ x, Good e) : Evt (fun k => opcode_Encode.f k x) (x.flatMap eb, 0, 0) := by
  obtain ⟨K, hK⟩ := enc_l0 x hx hg x.length 0 [] (by omega) (by omega) (by simp; omega)
  refine ⟨K, fun k hk => ?_⟩
  have h := hK k hk
  show opcode_Encode.f k x = _
  unfold opcode_Encode.f opcode_table.f
  rw [if_neg (by omega)]
  exact h
end Go.Proofs.YtepcdjaghoclfaaDoor.My
