/- The contract of the reference's function Instructions: it returns two lists in new memory, the second one the operands' letters of the eighty instructions. Conditions: the library's table of ASCII spaces holds what it was laid with, and its variable MaxLen holds a number. -/
import Derived.Test.YtepcdjaghoclfaaDoorPOpcodeDecodeMatchesSpecx0
import Derived.Test.YtepcdjaghoclfaaDoorMyS
namespace Go.Proofs.YtepcdjaghoclfaaDoor.My
open Go.RowKit Go.Proofs.YtepcdjaghoclfaaDoorW.PrintWords Go.Proofs.YtepcdjaghoclfaaDoorW.PrintLast Go.Proofs.YtepcdjaghoclfaaDoorW.PrintMore Go.Proofs.YtepcdjaghoclfaaDoor.POpcodeDecodeMatchesSpec
set_option linter.unusedVariables false
set_option linter.unusedSimpArgs false

/-! ### The library's variables -/
def Tabs (w : World) : Prop := (∀ c : Nat, c < 256 → w.cell? ⟨0, c, none⟩ = some (.int .u8 (if Lib.isSp (UInt8.ofNat c) then 1 else 0))) ∧ ∃ m, w.cell? ⟨2, 0, none⟩ = some (.int .i64 m)
theorem Tabs.below {w w1 : World} (h : Tabs w) (hb : Below w.heap.size w w1) : Tabs w1 :=
  ⟨fun c hc => pw_cell_below hb (h.1 c hc), h.2.elim fun m hm => ⟨m, pw_cell_below hb hm⟩⟩

/-! ### The words of the text -/
def instrText : List UInt8 := [99, 111, 110, 115, 116, 58, 107, 32, 112, 111, 112, 58, 99, 32, 112, 105, 99, 107, 58, 100, 32, 114, 111, 108, 108, 58, 100, 32, 108, 111, 97, 100, 58, 112, 118, 32, 115, 116, 111, 114, 101, 58, 112, 118, 32, 100, 101, 108, 101, 116, 101, 58, 112, 118, 32, 102, 111, 114, 103, 101, 116, 58, 112, 118, 32, 114, 101, 102, 58, 108, 32, 97, 116, 116, 114, 58, 110, 32, 115, 101, 116, 97, 116, 116, 114, 58, 110, 32, 100, 101, 108, 97, 116, 116, 114, 58, 110, 32, 105, 116, 101, 109, 58, 32, 115, 101, 116, 105, 116, 101, 109, 58, 32, 100, 101, 108, 105, 116, 101, 109, 58, 32, 115, 108, 105, 99, 101, 58, 32, 115, 101, 116, 115, 108, 105, 99, 101, 58, 32, 100, 101, 108, 115, 108, 105, 99, 101, 58, 32, 117, 110, 97, 114, 121, 58, 117, 32, 98, 105, 110, 97, 114, 121, 58, 98, 32, 97, 117, 103, 109, 101, 110, 116, 58, 98, 32, 99, 111, 109, 112, 97, 114, 101, 58, 109, 32, 106, 117, 109, 112, 58, 116, 32, 106, 117, 109, 112, 116, 114, 117, 101, 58, 116, 32, 106, 117, 109, 112, 102, 97, 108, 115, 101, 58, 116, 32, 107, 101, 101, 112, 116, 114, 117, 101, 58, 116, 32, 107, 101, 101, 112, 102, 97, 108, 115, 101, 58, 116, 32, 116, 117, 112, 108, 101, 58, 99, 32, 108, 105, 115, 116, 58, 99, 32, 115, 101, 116, 58, 99, 32, 100, 105, 99, 116, 58, 99, 32, 98, 117, 105, 108, 100, 58, 32, 97, 100, 100, 58, 100, 32, 97, 100, 100, 97, 108, 108, 58, 100, 32, 97, 100, 100, 112, 97, 105, 114, 58, 100, 32, 97, 100, 100, 112, 97, 105, 114, 115, 58, 100, 32, 102, 105, 110, 105, 115, 104, 58, 121, 32, 97, 114, 103, 115, 58, 32, 97, 114, 103, 58, 32, 97, 114, 103, 115, 116, 97, 114, 58, 32, 97, 114, 103, 110, 97, 109, 101, 100, 58, 110, 32, 97, 114, 103, 112, 97, 105, 114, 115, 58, 32, 99, 97, 108, 108, 58, 32, 99, 97, 108, 108, 119, 105, 116, 104, 58, 99, 32, 102, 117, 110, 99, 116, 105, 111, 110, 58, 111, 99, 32, 99, 108, 97, 115, 115, 58, 111, 32, 105, 116, 101, 114, 58, 32, 110, 101, 120, 116, 58, 116, 32, 108, 111, 111, 112, 58, 32, 117, 110, 112, 97, 99, 107, 58, 99, 32, 117, 110, 112, 97, 99, 107, 97, 108, 108, 58, 99, 99, 32, 102, 111, 114, 109, 97, 116, 58, 120, 110, 32, 106, 111, 105, 110, 58, 99, 32, 105, 109, 112, 111, 114, 116, 58, 110, 32, 102, 114, 111, 109, 58, 110, 32, 119, 105, 116, 104, 58, 32, 108, 101, 97, 118, 101, 58, 32, 114, 97, 105, 115, 101, 58, 50, 32, 102, 97, 105, 108, 58, 49, 32, 109, 97, 116, 99, 104, 58, 97, 32, 104, 97, 110, 100, 108, 101, 58, 32, 117, 110, 104, 97, 110, 100, 108, 101, 58, 32, 109, 97, 116, 99, 104, 101, 115, 58, 32, 97, 103, 97, 105, 110, 58, 32, 112, 101, 110, 100, 58, 102, 32, 112, 101, 110, 100, 114, 97, 105, 115, 101, 58, 102, 32, 114, 111, 117, 116, 101, 58, 114, 32, 101, 110, 100, 58, 102, 32, 114, 101, 116, 117, 114, 110, 58, 32, 121, 105, 101, 108, 100, 58, 32, 100, 101, 108, 101, 103, 97, 116, 101, 58, 32, 97, 119, 97, 105, 116, 58, 32, 108, 105, 110, 101, 58, 105, 32, 115, 97, 102, 101, 58, 32, 103, 114, 111, 117, 112, 58, 32, 112, 97, 114, 116, 58, 32, 114, 97, 105, 115, 101, 100, 58, 32, 117, 110, 103, 114, 111, 117, 112, 58, 32, 115, 117, 112, 101, 114, 58, 108, 32, 114, 101, 115, 116, 58, 116]
def words : List (List UInt8) := Lib.fields instrText
theorem words_length : words.length = 80 := by decide +kernel
theorem words_short : (words.all fun l => decide (l.length < 4294967281)) = true := by decide +kernel
theorem text_ascii : (instrText.all fun b => decide (b.toNat < 128)) = true := by decide +kernel
theorem text_length : instrText.length < 4294967281 := by decide +kernel
def wordStr (l : List UInt8) : ByteArray := ⟨l.toArray⟩
def headStr (l : List UInt8) : ByteArray := ⟨(Lib.cut l [58]).1.toArray⟩
def operStr (l : List UInt8) : ByteArray := ⟨(Lib.cut l [58]).2.1.toArray⟩
def foundStr (l : List UInt8) : Bool := (Lib.cut l [58]).2.2
def opers : List ByteArray := words.map operStr
def wordCells : Array Value := (words.map fun l => Value.string (wordStr l)).toArray
theorem opers_length : opers.length = 80 := by rw [opers, List.length_map, words_length]

theorem fields_calls (s : ByteArray) (w : World) (hs : s.data.toList = instrText) (h : Tabs w) : Calls Tryd.prog 17 #[.string s] w fun e w' => e = .returned (.slice (some ⟨w.heap.size, 0, none⟩) 80 80) ∧ w' = w.alloc (.cells wordCells 9) := by
  have hsz : s.size < 4294967281 := by
    have h1 : s.size = s.data.toList.length := Lib.size_eq s
    rw [h1, hs]
    exact text_length
  refine (Go.Proofs.Any.strings_Fields_core Go.Proofs.Tryd.lays157 (by kernel_rfl) s w hsz ?_ h.1).mono ?_
  · intro j b hj
    rw [hs] at hj
    have := List.all_eq_true.1 text_ascii b (List.mem_of_getElem? hj)
    simpa using this
  · rintro e w' ⟨rfl, rfl⟩
    rw [hs]
    have e1 : (Lib.fields instrText).length = 80 := words_length
    rw [e1]
    exact ⟨rfl, rfl⟩

theorem cut_calls (l : List UInt8) (sep : ByteArray) (w : World) (hsep : sep.data.toList = [58]) (hl : l.length < 4294967281) (h : Tabs w) :
    Calls Tryd.prog 18 #[.string (wordStr l), .string sep] w fun e w' => e = .returned (.tuple #[.string (headStr l), .string (operStr l), .bool (foundStr l)]) ∧ ∃ n, w' = w.drewN n := by
  obtain ⟨m, hm⟩ := h.2
  refine (Go.Proofs.Tryd.strings_Cut (wordStr l) sep m w (by rw [Lib.size_eq]; exact hl) hm).mono ?_
  rintro e w' ⟨rfl, n, rfl⟩
  refine ⟨?_, n, rfl⟩
  rw [hsep]
  rfl

/-! ### Two rows of one type that grow by turns -/
theorem two_other {W w1 : World} {base B : Nat} {u v v' : Value} {ys : List ByteArray} (h1 : Kd.R Kd.string 9 W base (fun b => b ≠ B ∧ some b ≠ v.ownBlock) u ys) (hg : W.grownBy w1 v.ownBlock) (hat : v'.ownBlock = v.ownBlock ∨ ∃ b, v'.ownBlock = some b ∧ W.heap.size ≤ b) :
    Kd.R Kd.string 9 w1 base (fun b => b ≠ B ∧ some b ≠ v'.ownBlock) u ys := by
  have h2 : Kd.R Kd.string 9 W base (fun b => (b ≠ B ∧ some b ≠ v'.ownBlock) ∧ some b ≠ v.ownBlock) u ys := by
    refine Kd.R_mono (Kd.R_bound h1) fun k hk => ⟨⟨hk.1.1, ?_⟩, hk.1.2⟩
    rcases hat with hat | ⟨b, hb, hle⟩
    · rw [hat]; exact hk.1.2
    · rw [hb]
      intro he
      injection he with he
      have := hk.2.2.1
      omega
  exact Kd.R_mono (Kd.R_step h2 fun k ho hlt => hg.block k hlt ho.2) fun k hk => hk.1
theorem two_fresh {W : World} {base B : Nat} {u : Value} {ys : List ByteArray} {ok : Nat → Prop} {o : Obj} (h1 : Kd.R Kd.string 9 W base ok u ys) (hB : W.heap[B]? = some o) : ∀ k, W.heap.size ≤ k → k ≠ B ∧ some k ≠ u.ownBlock := by
  intro k hk
  refine ⟨by have := blk_lt hB; omega, fun he => ?_⟩
  obtain ⟨_, inner, hown, _⟩ := h1
  have := own_lt hown k he.symm
  omega

theorem info9 : (Tryd.prog.info? 9).map (fun i => (i.zero, i.size, i.bytes)) = some (some (.string ⟨#[]⟩), 1, 16) := by kernel_rfl
set_option maxHeartbeats 1000000 in
set_option maxRecDepth 1000000 in
theorem instr_calls (w : World) (h : Tabs w) :
    Calls Tryd.prog 13 #[] w fun e w' => ∃ v0 v1 : Value, e = .returned (.tuple #[v0, v1]) ∧ Kd.R Kd.string 9 w' w.heap.size (fun _ => True) v1 opers ∧ Below w.heap.size w w' := by
  have H := Aside0.mk h
  clear h
  obtain ⟨B, hB⟩ : ∃ B, B = w.heap.size := ⟨_, rfl⟩
  have HBB := Aside0.mk hB
  clear hB
  go_enter Tryd.func13, Tryd.ntmps13
  go_wp2_with (go_at_call 17; refine (fields_calls _ _ rfl H.out).mono ?_; rintro e w' ⟨rfl, rfl⟩; rw [← HBB.out])
  go_loopg [0, 1, 9] 80 (fun kq v0 v1 v9 wr => ∃ k : Nat, k ≤ 80 ∧ kq = 80 - k ∧ v9 = .int .i64 k ∧ Aside0 (∃ ns : List ByteArray, ns.length = k ∧ Kd.R Kd.string 9 wr w.heap.size (fun b => b ≠ B ∧ some b ≠ v1.ownBlock) v0 ns) ∧
    Aside0 (Kd.R Kd.string 9 wr w.heap.size (fun b => b ≠ B ∧ some b ≠ v0.ownBlock) v1 (opers.take k)) ∧ Aside0 (wr.heap[B]? = some (.cells wordCells 9 (0, 0))) ∧ Aside0 (Below w.heap.size w wr))
  case atStart =>
    refine ⟨0, by omega, rfl, rfl, ⟨[], rfl, Kd.R_nil _ _ _ _ _⟩, ⟨Kd.R_nil _ _ _ _ _⟩, ⟨?_⟩, ⟨below_alloc (Below.refl _ _) _⟩⟩
    rw [HBB.out]
    exact blk_new _ _
  case round =>
    obtain ⟨k, hk, rfl, rfl, HN, HO, HW, HB⟩ := hrel
    by_cases hlt : k < 80
    · obtain ⟨l, hl⟩ : ∃ l, words[k]? = some l := ⟨words[k]'(by rw [words_length]; exact hlt), List.getElem?_eq_getElem _⟩
      have hc : wr.cell? ⟨B, k, none⟩ = some (.string (wordStr l)) := by
        rw [blk_cell HW.out k]
        simp [wordCells, hl]
      have hshort : l.length < 4294967281 := by
        have := List.all_eq_true.1 words_short l (List.mem_of_getElem? hl)
        simpa using this
      have HS := Aside0.mk hshort
      have HT : Aside0 (Tabs wr) := ⟨H.out.below HB.out⟩
      have HL := Aside0.mk hl
      clear hl hshort
      obtain ⟨ns, hns, hN⟩ := HN.out
      have HN1 := Aside0.mk hN
      have HNS := Aside0.mk hns
      clear HN hN hns
      go_wp2_with (first | (go_at_call 18; refine (cut_calls _ _ _ rfl HS.out HT.out).mono ?_; rintro e w' ⟨rfl, n, rfl⟩) | ((with_reducible refine gate_builtin (b := .append) (xs := #[.tmp 19, .tmp 21]) rfl ?_); at_builtin; refine Kd.R_append Kd.string (w0 := w) w.heap.size rfl (.tmp 19) (.tmp 21) 43 9 (.string ⟨#[]⟩) 16 rfl Tryd.underlying43 info9 rfl (by decide) (by omega) u0 ns (headStr l) [.string (headStr l)] (fun b => b ≠ B ∧ some b ≠ u1.ownBlock) (fun _ => False) rfl rfl ?aP (fun _ hk => hk.elim) ?aF ?aO ?aB ?aS ?aL ?_; (case aP => exact rfl); (case aF => exact two_fresh (Kd.R_drewN HO.out _) (blk_drewN HW.out _)); (case aO => exact Kd.R_drewN HN1.out _); (case aB => exact pw_below_drewN HB.out _); (case aS => exact HB.out.size); (case aL => have := HNS.out; omega); intro v0' w1 ho hb hg hat; have n0_ := Aside0.mk ho; have n1_ := Aside0.mk (two_other (Kd.R_drewN HO.out n) hg hat); have n2_ := Aside0.mk (blk_grown (blk_drewN HW.out n) hg (fun he => ((Kd.R_drewN HN1.out n).1 _ he.symm).1 rfl)); have n3_ := Aside0.mk hb; clear hb ho hg hat HO HN1 HW HB; have HN1 := n0_; have HO := n1_; have HW := n2_; have HB := n3_; clear n0_ n1_ n2_ n3_) | ((with_reducible refine gate_builtin (b := .append) (xs := #[.tmp 23, .tmp 25]) rfl ?_); at_builtin; refine Kd.R_append Kd.string (w0 := w) w.heap.size rfl (.tmp 23) (.tmp 25) 43 9 (.string ⟨#[]⟩) 16 rfl Tryd.underlying43 info9 rfl (by decide) (by omega) u1 (opers.take k) (operStr l) [.string (operStr l)] (fun b => b ≠ B ∧ some b ≠ v0'.ownBlock) (fun _ => False) rfl rfl ?aP (fun _ hk => hk.elim) ?aF ?aO ?aB ?aS ?aL ?_; (case aP => exact rfl); (case aF => exact two_fresh HN1.out HW.out); (case aO => exact HO.out); (case aB => exact HB.out); (case aS => exact HB.out.size); (case aL => have := List.length_take_le k opers; omega); intro v1' w2 ho hb hg hat; have n0_ := Aside0.mk ho; have n1_ := Aside0.mk (two_other HN1.out hg hat); have n2_ := Aside0.mk (blk_grown HW.out hg (fun he => (HO.out.1 _ he.symm).1 rfl)); have n3_ := Aside0.mk hb; clear hb ho hg hat HO HN1 HW HB; have HO := n0_; have HN1 := n1_; have HW := n2_; have HB := n3_; clear n0_ n1_ n2_ n3_))
      go_roundg (80 - (k + 1))
      case measure => omega
      case rel =>
        refine ⟨k + 1, by omega, rfl, by go_num, ⟨_, ?_, HN1.out⟩, ⟨?_⟩, HW, HB⟩
        · rw [List.length_append, HNS.out]; rfl
        · have e1 : opers.take (k + 1) = opers.take k ++ [operStr l] := by
            rw [List.take_add_one, opers, List.getElem?_map, HL.out]
            rfl
          rw [e1]
          exact HO.out
    · obtain rfl : k = 80 := by omega
      go_wp2
      go_ret2
      have e1 : opers.take 80 = opers := List.take_of_length_le (Nat.le_of_eq opers_length)
      exact ⟨_, _, rfl, by rw [← e1]; exact Kd.R_mono HO.out (fun _ _ => trivial), HB.out⟩
end Go.Proofs.YtepcdjaghoclfaaDoor.My
