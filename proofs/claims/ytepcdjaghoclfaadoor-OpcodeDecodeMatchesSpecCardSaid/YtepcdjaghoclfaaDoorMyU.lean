/- Small plain laws: bits of groups of seven, slices equal to themselves, the operands of an instruction. Conditions: what each theorem's own hypotheses say. -/
import Derived.Test.YtepcdjaghoclfaaDoorMyR
import Derived.Test.YtepcdjaghoclfaaDoorMyC
import Derived.Test.YtepcdjaghoclfaaDoorMyE
import Derived.Test.YtepcdjaghoclfaaDoorMyF
namespace Go.Proofs.YtepcdjaghoclfaaDoor.My
open Go.RowKit Go.Proofs.YtepcdjaghoclfaaDoorW.PrintWords Go.Proofs.YtepcdjaghoclfaaDoorW.PrintLast Go.Proofs.YtepcdjaghoclfaaDoorW.PrintMore Go.Proofs.YtepcdjaghoclfaaDoor.POpcodeDecodeMatchesSpec
set_option linter.unusedVariables false
set_option linter.unusedSimpArgs false

/-! ### Bits -/
theorem wraps31 (n : Int) (h0 : 0 ≤ n) (h1 : n < 2 ^ 31) : IntKind.i64.wrap n = n := by
  rw [IntKind.wrap_i64]
  omega
theorem and127 (x : Int) (h0 : 0 ≤ x) (h1 : x < 2147483648) : Go.bits .and .i64 x 127 = x % 128 := bits_mask .i64 31 (by decide) wraps31 7 (by decide) x h0 h1
theorem or_comm' (x y : Int) (hx0 : 0 ≤ x) (hx1 : x < 2147483648) (hy0 : 0 ≤ y) (hy1 : y < 2147483648) : Go.bits .or .i64 x y = Go.bits .or .i64 y x := by
  obtain ⟨a, rfl⟩ := Int.eq_ofNat_of_zero_le hx0
  obtain ⟨b, rfl⟩ := Int.eq_ofNat_of_zero_le hy0
  have ha : a < 2 ^ 31 := by omega
  have hb : b < 2 ^ 31 := by omega
  rw [(bits_nat .i64 31 (by decide) wraps31 a b ha hb).2, (bits_nat .i64 31 (by decide) wraps31 b a hb ha).2, Nat.or_comm]
theorem or128 (x : Int) (h0 : 0 ≤ x) (h1 : x < 128) : Go.bits .or .i64 x 128 = x + 128 := by
  rw [or_comm' x 128 h0 (by omega) (by omega) (by omega), bits_join .i64 31 (by decide) wraps31 7 128 x (by omega) (by decide) (by decide) h0 h1 (by omega)]
  omega
theorem group_or (t : Nat) (n c : Int) (ht : t ≤ 2) (hn0 : 0 ≤ n) (hn : n < 128 ^ t) (hc0 : 0 ≤ c) (hc1 : c ≤ 255) :
    Go.bits .or .i64 n (shl .i64 (Go.bits .and .i64 c 127) (7 * t : Nat)) = n + c % 128 * 128 ^ t := by
  rw [and127 c hc0 (by omega)]
  have hm0 : 0 ≤ c % 128 := by omega
  have hm1 : c % 128 < 128 := by omega
  obtain ⟨m, hm⟩ : ∃ m, m = c % 128 := ⟨_, rfl⟩
  rw [← hm] at hm0 hm1 ⊢
  clear hm
  obtain rfl | rfl | rfl : t = 0 ∨ t = 1 ∨ t = 2 := by omega
  · have e : shl .i64 m ((7 * 0 : Nat) : Int) = m := by
      show IntKind.i64.wrap (m * 1) = m
      rw [wraps31 _ (by omega) (by omega)]
      omega
    simp at hn
    obtain rfl : n = 0 := by omega
    rw [e, or_comm' 0 m (by omega) (by omega) hm0 (by omega), bits_join .i64 31 (by decide) wraps31 0 m 0 hm0 (by omega) (by omega) (by omega) (by omega) (by omega)]
    omega
  · have e : shl .i64 m ((7 * 1 : Nat) : Int) = m * 128 := by
      show IntKind.i64.wrap (m * 128) = m * 128
      rw [wraps31 _ (by omega) (by omega)]
    simp at hn
    rw [e, or_comm' n _ hn0 (by omega) (by omega) (by omega), bits_join .i64 31 (by decide) wraps31 7 (m * 128) n (by omega) (by omega) (by omega) hn0 (by omega) (by omega)]
    omega
  · have e : shl .i64 m ((7 * 2 : Nat) : Int) = m * 16384 := by
      show IntKind.i64.wrap (m * 16384) = m * 16384
      rw [wraps31 _ (by omega) (by omega)]
    simp at hn
    rw [e, or_comm' n _ hn0 (by omega) (by omega) (by omega), bits_join .i64 31 (by decide) wraps31 14 (m * 16384) n (by omega) (by omega) (by omega) hn0 (by omega) (by omega)]
    omega

/-! ### Slices equal to themselves -/
theorem eq_instr (x : List S30) (hx : x.length ≤ 140737488351232) : ∀ (d k : Nat) (i : Int), 0 ≤ i → i ≤ x.length → (x.length : Int) - i = d → d < k → api_Instr.l0 k x x (x.length : Int) i = some true := by
  intro d
  induction d with
  | zero =>
    intro k i h0 h1 hd hk
    obtain ⟨k, rfl⟩ : ∃ m, k = m + 1 := ⟨k - 1, by omega⟩
    simp only [api_Instr.l0]
    rw [if_neg (by omega)]
  | succ d ih =>
    intro k i h0 h1 hd hk
    obtain ⟨k, rfl⟩ : ∃ m, k = m + 1 := ⟨k - 1, by omega⟩
    simp only [api_Instr.l0]
    rw [if_pos (by omega), if_pos h0, if_pos (by omega), if_pos (by omega), if_neg (by simp)]
    have e : wrap64 (i + 1) = i + 1 := by unfold wrap64; omega
    rw [e]
    exact ih k (i + 1) (by omega) (by omega) (by omega) (by omega)
theorem eq_instr_f (x : List S30) (hx : x.length ≤ 140737488351232) (k : Nat) (hk : x.length < k) : api_Instr.f k x x = some true := by
  unfold api_Instr.f
  rw [if_pos rfl]
  exact eq_instr x hx x.length k 0 (by omega) (by omega) (by omega) hk
theorem eq_bytes (x : List Int) (hx : x.length ≤ 140737488351232) : ∀ (d k : Nat) (i : Int), 0 ≤ i → i ≤ x.length → (x.length : Int) - i = d → d < k → slices_Equal_byte_byte.l0 k x x (x.length : Int) i = some true := by
  intro d
  induction d with
  | zero =>
    intro k i h0 h1 hd hk
    obtain ⟨k, rfl⟩ : ∃ m, k = m + 1 := ⟨k - 1, by omega⟩
    simp only [slices_Equal_byte_byte.l0]
    rw [if_neg (by omega)]
  | succ d ih =>
    intro k i h0 h1 hd hk
    obtain ⟨k, rfl⟩ : ∃ m, k = m + 1 := ⟨k - 1, by omega⟩
    simp only [slices_Equal_byte_byte.l0]
    rw [if_pos (by omega), if_pos h0, if_pos (by omega), if_pos (by omega), if_pos True.intro]
    have e : wrap64 (i + 1) = i + 1 := by unfold wrap64; omega
    rw [e]
    exact ih k (i + 1) (by omega) (by omega) (by omega) (by omega)
theorem eq_bytes_f (x : List Int) (hx : x.length ≤ 140737488351232) (k : Nat) (hk : x.length < k) : slices_Equal_byte_byte.f k x x = some true := by
  unfold slices_Equal_byte_byte.f
  rw [if_pos rfl]
  exact eq_bytes x hx x.length k 0 (by omega) (by omega) (by omega) hk

/-! ### The table -/
theorem entries_length : (entries.length : Int) = 80 := by decide +kernel
theorem table_opers : ((List.range 80).all fun n => opcode_operands.f (entries.getD n z42).f0 (entries.getD n z42).f1 (entries.getD n z42).f2 == some ((opers.getD n ByteArray.empty).size : Int)) = true := by decide +kernel
theorem operands_cnt (op : Int) (h0 : 0 ≤ op) (h1 : op < 80) : opcode_operands.f (rd_T42 entries op).f0 (rd_T42 entries op).f1 (rd_T42 entries op).f2 = some (cnt op : Int) := by
  have h := List.all_eq_true.1 table_opers op.toNat (List.mem_range.2 (by omega))
  exact eq_of_beq h
theorem cnt_le (op : Int) : cnt op ≤ 2 := (oper_ok op.toNat).1
end Go.Proofs.YtepcdjaghoclfaaDoor.My
