/- The contract of the reference's function Septet: it reads a number in groups of seven bits and moves the place on. Conditions: the bytes are bytes, the place lies in them or at their end, and its variable is none of the bytes. -/
import Derived.Test.YtepcdjaghoclfaaDoorPOpcodeDecodeMatchesSpecx0
namespace Go.Proofs.YtepcdjaghoclfaaDoor.My
open Go.RowKit Go.Proofs.YtepcdjaghoclfaaDoorW.PrintWords Go.Proofs.YtepcdjaghoclfaaDoorW.PrintLast Go.Proofs.YtepcdjaghoclfaaDoorW.PrintMore Go.Proofs.YtepcdjaghoclfaaDoor.POpcodeDecodeMatchesSpec
set_option linter.unusedVariables false
set_option linter.unusedSimpArgs false

/-- The number, the code of the fault, the place behind. -/
def sept (l : List Int) : Nat → Int → Int → Int → Int → Int × Int × Int
  | 0, i, _, _, _ => (0, 16, i)
  | f + 1, i, n, wt, k => if (l.length : Int) ≤ i then (0, 15, i) else if k = 3 then (0, 16, i) else
      if rd l i < 128 then (if rd l i = 0 ∧ 0 < k then (0, 16, i + 1) else (n + rd l i % 128 * wt, 0, i + 1)) else sept l f (i + 1) (n + rd l i % 128 * wt) (wt * 128) (k + 1)

theorem rd_byte {l : List Int} (hl : ∀ x ∈ l, 0 ≤ x ∧ x ≤ 255) (i : Int) : 0 ≤ rd l i ∧ rd l i ≤ 255 := by
  unfold rd
  rw [List.getD_eq_getElem?_getD]
  cases h : l[i.toNat]? with
  | none => simp
  | some x => exact hl x (List.mem_of_getElem? h)

def SeptPost (w : World) (g : Nat) (r : Int × Int × Int) (e : Ending) (w' : World) : Prop :=
  e = .returned (.tuple #[.int .i64 r.1, .int .i64 r.2.1]) ∧ w'.heap[g]? = some (.cells #[.int .i64 r.2.2] 3 (0, 0)) ∧ w.grownBy w' (some g)

theorem sum_bounds {c n wt : Int} {k : Nat} (hc : 0 ≤ c) (hn : 0 ≤ n) (hw : wt = 128 ^ k) (hk : n < 128 ^ k) (h3 : k < 3) : 0 ≤ n + c % 128 * wt ∧ n + c % 128 * wt < 2097152 ∧ n + c % 128 * wt < 128 ^ (k + 1) := by
  have hm0 : 0 ≤ c % 128 := by omega
  have hm1 : c % 128 < 128 := by omega
  obtain rfl | rfl | rfl : k = 0 ∨ k = 1 ∨ k = 2 := by omega
  all_goals
    simp at hw hk
    subst hw
    simp
    omega
theorem sum_fits {c n wt : Int} {k : Nat} (hc : 0 ≤ c) (hn : 0 ≤ n) (hw : wt = 128 ^ k) (hk : n < 128 ^ k) (h3 : k < 3) : wrap64 (n + wrap64 (c % 128 * wt)) = n + c % 128 * wt := by
  obtain ⟨h0, h1, _⟩ := sum_bounds hc hn hw hk h3
  have hm0 : 0 ≤ c % 128 := by omega
  have hm1 : c % 128 < 128 := by omega
  obtain rfl | rfl | rfl : k = 0 ∨ k = 1 ∨ k = 2 := by omega
  all_goals
    simp at hw
    subst hw
    unfold wrap64
    omega
theorem weight_fits {wt : Int} {k : Nat} (hw : wt = 128 ^ k) (h3 : k < 3) : wrap64 (wt * 128) = wt * 128 := by
  obtain rfl | rfl | rfl : k = 0 ∨ k = 1 ∨ k = 2 := by omega
  all_goals
    simp at hw
    subst hw
    unfold wrap64
    omega
theorem grown_put {w wr : World} {g : Nat} (h : w.grownBy wr (some g)) (v : Value) : w.grownBy (wr.setCell ⟨g, 0, none⟩ v) (some g) :=
  ⟨h.os, h.tape, h.output, by simpa [World.setCell] using h.size, fun k hk hne => (Below.heap_setCell _ _ _ _ (by intro e; exact hne (by rw [e]))).trans (h.block k hk hne)⟩
set_option maxHeartbeats 2000000 in
set_option maxRecDepth 100000 in
theorem septet_calls (W0 w : World) (A : Option Addr) (c0 : Nat) (l : List Int) (g : Nat) (i : Int) (hl : ∀ x ∈ l, 0 ≤ x ∧ x ≤ 255) (hlen : l.length ≤ 140737488351232) (hC : Kd.C (Kd.int .u8) W0 A l.length l) (hc0 : l.length ≤ c0) (hB : Below W0.heap.size W0 w) (hg : W0.heap.size ≤ g)
    (hi : w.heap[g]? = some (.cells #[.int .i64 i] 3 (0, 0))) (h0 : 0 ≤ i) (h1 : i ≤ l.length) :
    Calls Tryd.prog 15 #[.slice A l.length c0, .pointer (some ⟨g, 0, none⟩)] w (SeptPost w g (sept l 4 i 0 1 0)) := by
  have HL := Aside0.mk hl
  have HC := Aside0.mk hC
  have HB0 := Aside0.mk hB
  have HG := Aside0.mk hg
  obtain ⟨r, hr⟩ : ∃ r, r = sept l 4 i 0 1 0 := ⟨_, rfl⟩
  rw [← hr]
  have HR := Aside0.mk hr
  have HI := Aside0.mk hi
  clear hl hC hB hg hr hi
  go_enter Tryd.func15, Tryd.ntmps15
  go_wp2
  go_loopg [6, 7, 8] 4 (fun kq v6 v7 v8 wr => ∃ (k : Nat) (i1 n wt : Int), k ≤ 3 ∧ kq = 4 - k ∧ v6 = .int .i64 n ∧ v7 = .int .i64 wt ∧ v8 = .int .i64 k ∧ 0 ≤ i1 ∧ i1 ≤ l.length ∧ 0 ≤ n ∧ n < 2097152 ∧ 0 ≤ wt ∧ Aside0 (wt = 128 ^ k ∧ n < 128 ^ k) ∧ Aside0 (sept l (4 - k) i1 n wt k = r) ∧
    Aside0 (wr.heap[g]? = some (.cells #[.int .i64 i1] 3 (0, 0))) ∧ Aside0 (w.grownBy wr (some g)) ∧ Aside0 (Below W0.heap.size W0 wr))
  case atStart => exact ⟨0, i, 0, 1, by omega, rfl, rfl, rfl, rfl, h0, h1, by omega, by omega, by omega, ⟨rfl, by decide⟩, ⟨HR.out.symm⟩, HI, ⟨World.grownBy.refl w _⟩, HB0⟩
  case round =>
    obtain ⟨k, i1, n, wt, hk, rfl, rfl, rfl, rfl, hi0, hi1, hn0, hn1, hw0, HW, HS, HI, HG1, HB⟩ := hrel
    have hcell : wr.cell? ⟨g, 0, none⟩ = some (.int .i64 i1) := (blk_cell HI.out 0).trans rfl
    have hfroz := blk_frozen HI.out 0
    by_cases hge : (l.length : Int) ≤ i1
    · have hs := HS.out
      rw [show 4 - k = (3 - k) + 1 by omega, sept, if_pos hge] at hs
      have HS1 := Aside0.mk hs
      clear hs
      go_wp2
      go_ret2
      rw [← HS1.out]
      exact ⟨rfl, HI.out, HG1.out⟩
    · have hlt : i1 < (l.length : Int) := by omega
      obtain ⟨ad, ead, hx⟩ := Kd.at_int HC.out i1 hi0 hlt
      cases ead
      replace hx := (HB.out.cell (World.block_lt_of_cell? W0 _ hx)).trans hx
      obtain ⟨hc0', hc1'⟩ := rd_byte HL.out i1
      by_cases hk3 : k = 3
      · subst hk3
        have hs := HS.out
        simp only [show 4 - 3 = 0 + 1 by omega, sept, if_neg hge] at hs
        have HS1 := Aside0.mk hs
        clear hs
        go_wp2
        go_ret2
        rw [← HS1.out]
        exact ⟨rfl, HI.out, HG1.out⟩
      · have hkz : ¬ ((k : Int) = 3) := by omega
        have hs := HS.out
        rw [show 4 - k = (3 - k) + 1 by omega, sept, if_neg hge, if_neg hkz] at hs
        by_cases hc : rd l i1 < 128
        · rw [if_pos hc] at hs
          by_cases hz : rd l i1 = 0 ∧ 0 < (k : Int)
          · rw [if_pos hz] at hs
            have HS1 := Aside0.mk hs
            clear hs
            obtain ⟨hz1, hz2⟩ := hz
            have hzb : (rd l i1 == 0) = true := beq_iff_eq.mpr hz1
            have hk0 : 0 < k := by omega
            clear hz1
            go_wp2
            go_ret2
            rw [← HS1.out]
            exact ⟨rfl, blk_put HI.out 0 _ rfl, grown_put HG1.out _⟩
          · rw [if_neg hz] at hs
            have HS1 := Aside0.mk hs
            clear hs
            by_cases hz1 : rd l i1 = 0
            · have hk0 : k = 0 := by omega
              subst hk0
              have hzb : (rd l i1 == 0) = true := beq_iff_eq.mpr hz1
              clear hz hz1
              go_wp2
              have hsum : wrap64 (n + wrap64 (rd l i1 % 128 * wt)) = n + rd l i1 % 128 * wt := sum_fits hc0' hn0 HW.out.1 HW.out.2 (by omega)
              go_ret2
              rw [← HS1.out]
              exact ⟨by rw [hsum]; rfl, blk_put HI.out 0 _ rfl, grown_put HG1.out _⟩
            · have hzb : (rd l i1 == 0) = false := beq_eq_false_iff_ne.mpr hz1
              clear hz hz1
              go_wp2
              have hsum : wrap64 (n + wrap64 (rd l i1 % 128 * wt)) = n + rd l i1 % 128 * wt := sum_fits hc0' hn0 HW.out.1 HW.out.2 (by omega)
              go_ret2
              rw [← HS1.out]
              exact ⟨by rw [hsum]; rfl, blk_put HI.out 0 _ rfl, grown_put HG1.out _⟩
        · rw [if_neg hc] at hs
          have HS1 := Aside0.mk hs
          clear hs
          go_wp2
          have hsum : wrap64 (n + wrap64 (rd l i1 % 128 * wt)) = n + rd l i1 % 128 * wt := sum_fits hc0' hn0 HW.out.1 HW.out.2 (by omega)
          have hwt : wrap64 (wt * 128) = wt * 128 := weight_fits HW.out.1 (by omega)
          go_roundg (4 - (k + 1))
          case measure => omega
          case rel => exact ⟨k + 1, i1 + 1, n + rd l i1 % 128 * wt, wt * 128, by omega, rfl, by rw [hsum], by rw [hwt], by go_num, by omega, by omega, (sum_bounds hc0' hn0 HW.out.1 HW.out.2 (by omega)).1, (sum_bounds hc0' hn0 HW.out.1 HW.out.2 (by omega)).2.1, by omega, ⟨by rw [Int.pow_succ, HW.out.1], (sum_bounds hc0' hn0 HW.out.1 HW.out.2 (by omega)).2.2⟩, ⟨by rw [← HS1.out]; congr 1; omega⟩, ⟨blk_put HI.out 0 _ rfl⟩, ⟨grown_put HG1.out _⟩, ⟨HB.out.setCell HG.out _⟩⟩
end Go.Proofs.YtepcdjaghoclfaaDoor.My
