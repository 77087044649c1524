/- The contract of opcode.Encode: what the printed function answers, the Go function returns. Conditions: what each theorem's own hypotheses say. -/
import Derived.Test.YtepcdjaghoclfaaDoorMyB
import Derived.Test.YtepcdjaghoclfaaDoorMyD
namespace Go.Proofs.YtepcdjaghoclfaaDoor.My
open Go.RowKit Go.Proofs.YtepcdjaghoclfaaDoorW.PrintWords Go.Proofs.YtepcdjaghoclfaaDoorW.PrintLast Go.Proofs.YtepcdjaghoclfaaDoorW.PrintMore Go.Proofs.YtepcdjaghoclfaaDoor.POpcodeDecodeMatchesSpec
attribute [local go_sem] max2_int min2_int max_two min_two max_three min_three max_four min_four
set_option linter.unusedVariables false
set_option linter.unusedSimpArgs false

/-! ### opcode_Encode: function 7 -/
mutual
def opcode_Encode.l0 : Nat → List Int → List (S42) → List (S30) → Int → Int → Option (List Int × Int × Int)
  | 0, _, _, _, _, _ => none
  | k + 1, x4, x5, x16, x17, x18 => if x18 < x17 then (if 0 ≤ x18 then (if x18 < (x16.length : Int) then ((opcode_within.f ((rd_T30 x16 x18).f0) (x5.length : Int)).bind fun t156 => (if t156 = true then (if 0 ≤ ((rd_T30 x16 x18).f0) then (if ((rd_T30 x16 x18).f0) < (x5.length : Int) then ((opcode_operands.f ((rd_T42 x5 ((rd_T30 x16 x18).f0)).f0) ((rd_T42 x5 ((rd_T30 x16 x18).f0)).f1) ((rd_T42 x5 ((rd_T30 x16 x18).f0)).f2)).bind fun t160 => (if ((rd_T30 x16 x18).f1) < 0 then (opcode_Encode.j1 k x4 x5 x18 t160 x16 x17 x18 true ((rd_T30 x16 x18).f0) ((rd_T30 x16 x18).f1) ((rd_T30 x16 x18).f2)) else (if ((rd_T30 x16 x18).f2) < 0 then (opcode_Encode.j1 k x4 x5 x18 t160 x16 x17 x18 true ((rd_T30 x16 x18).f0) ((rd_T30 x16 x18).f1) ((rd_T30 x16 x18).f2)) else (if ((rd_T30 x16 x18).f1) > 16000 then (opcode_Encode.j1 k x4 x5 x18 t160 x16 x17 x18 true ((rd_T30 x16 x18).f0) ((rd_T30 x16 x18).f1) ((rd_T30 x16 x18).f2)) else (if ((rd_T30 x16 x18).f2) > 16000 then (opcode_Encode.j1 k x4 x5 x18 t160 x16 x17 x18 true ((rd_T30 x16 x18).f0) ((rd_T30 x16 x18).f1) ((rd_T30 x16 x18).f2)) else (if t160 < 2 then (if ((rd_T30 x16 x18).f2) = 0 then (if t160 < 1 then (opcode_Encode.j1 k x4 x5 x18 t160 x16 x17 x18 (((rd_T30 x16 x18).f1) != 0) ((rd_T30 x16 x18).f0) ((rd_T30 x16 x18).f1) ((rd_T30 x16 x18).f2)) else (opcode_Encode.j1 k x4 x5 x18 t160 x16 x17 x18 false ((rd_T30 x16 x18).f0) ((rd_T30 x16 x18).f1) ((rd_T30 x16 x18).f2))) else (opcode_Encode.j1 k x4 x5 x18 t160 x16 x17 x18 true ((rd_T30 x16 x18).f0) ((rd_T30 x16 x18).f1) ((rd_T30 x16 x18).f2))) else (if t160 < 1 then (opcode_Encode.j1 k x4 x5 x18 t160 x16 x17 x18 (((rd_T30 x16 x18).f1) != 0) ((rd_T30 x16 x18).f0) ((rd_T30 x16 x18).f1) ((rd_T30 x16 x18).f2)) else (opcode_Encode.j1 k x4 x5 x18 t160 x16 x17 x18 false ((rd_T30 x16 x18).f0) ((rd_T30 x16 x18).f1) ((rd_T30 x16 x18).f2))))))))) else (none)) else (none)) else ((opcode_fault.f 5 x18).bind fun bt157 => (some (([] : List Int), bt157.1, bt157.2))))) else (none)) else (none)) else (some (x4, 0, 0))
def opcode_Encode.j1 : Nat → List Int → List (S42) → Int → Int → List (S30) → Int → Int → Bool → Int → Int → Int → Option (List Int × Int × Int)
  | 0, _, _, _, _, _, _, _, _, _, _, _ => none
  | k + 1, x4, x5, x6, x8, x16, x17, x18, x72, x156000, x156001, x156002 => if x72 = true then ((opcode_fault.f 4 x6).bind fun bt161 => (some (([] : List Int), bt161.1, bt161.2))) else (if x4.length < 140737488355328 then ((some (([x156001, x156002] : List Int) : List Int)).bind fun y166 => (if 0 ≤ x8 then (if x8 ≤ (y166.length : Int) then ((some (y166.take (x8 : Int).toNat : List Int)).bind fun y169 => (opcode_Encode.l1 k (x4 ++ [(x156000) % 256]) x5 x16 x17 x18 y169 (y169.length : Int) 0)) else (none)) else (none))) else (none))
def opcode_Encode.l1 : Nat → List Int → List (S42) → List (S30) → Int → Int → List Int → Int → Int → Option (List Int × Int × Int)
  | 0, _, _, _, _, _, _, _, _ => none
  | k + 1, x4, x5, x16, x17, x18, x87, x88, x89 => if x89 < x88 then (if 0 ≤ x89 then (if x89 < (x87.length : Int) then ((opcode_varint.f k x4 (rd x87 x89)).bind fun t174 => (opcode_Encode.l1 k t174 x5 x16 x17 x18 x87 x88 (wrap64 (x89 + 1)))) else (none)) else (none)) else (opcode_Encode.l0 k x4 x5 x16 x17 (wrap64 (x18 + 1)))
end
def opcode_Encode.f (k : Nat) (l0 : List (S30)) : Option (List Int × Int × Int) := if (l0.length : Int) > 60000 then ((opcode_fault.f 2 (-1)).bind fun bt149 => (some (([] : List Int), bt149.1, bt149.2))) else ((opcode_table.f).bind fun t151 => (opcode_Encode.l0 k ([] : List Int) t151 l0 (l0.length : Int) 0))
theorem opcode_Encode.mono_l : ∀ k, (∀ y0 y1 y2 y3 y4, LeO (opcode_Encode.l0 k y0 y1 y2 y3 y4) (opcode_Encode.l0 (k + 1) y0 y1 y2 y3 y4)) ∧ (∀ y0 y1 y2 y3 y4 y5 y6 y7 y8 y9 y10, LeO (opcode_Encode.j1 k y0 y1 y2 y3 y4 y5 y6 y7 y8 y9 y10) (opcode_Encode.j1 (k + 1) y0 y1 y2 y3 y4 y5 y6 y7 y8 y9 y10)) ∧ (∀ y0 y1 y2 y3 y4 y5 y6 y7, LeO (opcode_Encode.l1 k y0 y1 y2 y3 y4 y5 y6 y7) (opcode_Encode.l1 (k + 1) y0 y1 y2 y3 y4 y5 y6 y7))
  | 0 => ⟨fun _ _ _ _ _ r h => by simp [opcode_Encode.l0] at h, fun _ _ _ _ _ _ _ _ _ _ _ r h => by simp [opcode_Encode.j1] at h, fun _ _ _ _ _ _ _ _ r h => by simp [opcode_Encode.l1] at h⟩
  | k + 1 => by
    obtain ⟨ih0, ih1, ih2⟩ := opcode_Encode.mono_l k
    refine ⟨?_, ?_, ?_⟩
    · intro y0 y1 y2 y3 y4
      unfold opcode_Encode.l0
      repeat' first
      | (with_reducible exact ih0 _ _ _ _ _)
      | (with_reducible exact ih1 _ _ _ _ _ _ _ _ _ _ _)
      | (with_reducible exact ih2 _ _ _ _ _ _ _ _)
      | (with_reducible exact opcode_varint.mono _ _ _)
      | (with_reducible exact LeO.refl _)
      | (with_reducible exact LeO.none _)
      | (with_reducible refine LeO.ite ?_ ?_)
      | (with_reducible refine LeO.bind ?_ (fun _ => ?_))
      | exact ih0 _ _ _ _ _
      | exact ih1 _ _ _ _ _ _ _ _ _ _ _
      | exact ih2 _ _ _ _ _ _ _ _
      | exact opcode_varint.mono _ _ _
      | exact LeO.none _
      | refine LeO.ite ?_ ?_
      | refine LeO.bind ?_ (fun _ => ?_)
    · intro y0 y1 y2 y3 y4 y5 y6 y7 y8 y9 y10
      unfold opcode_Encode.j1
      repeat' first
      | (with_reducible exact ih0 _ _ _ _ _)
      | (with_reducible exact ih1 _ _ _ _ _ _ _ _ _ _ _)
      | (with_reducible exact ih2 _ _ _ _ _ _ _ _)
      | (with_reducible exact opcode_varint.mono _ _ _)
      | (with_reducible exact LeO.refl _)
      | (with_reducible exact LeO.none _)
      | (with_reducible refine LeO.ite ?_ ?_)
      | (with_reducible refine LeO.bind ?_ (fun _ => ?_))
      | exact ih0 _ _ _ _ _
      | exact ih1 _ _ _ _ _ _ _ _ _ _ _
      | exact ih2 _ _ _ _ _ _ _ _
      | exact opcode_varint.mono _ _ _
      | exact LeO.none _
      | refine LeO.ite ?_ ?_
      | refine LeO.bind ?_ (fun _ => ?_)
    · intro y0 y1 y2 y3 y4 y5 y6 y7
      unfold opcode_Encode.l1
      repeat' first
      | (with_reducible exact ih0 _ _ _ _ _)
      | (with_reducible exact ih1 _ _ _ _ _ _ _ _ _ _ _)
      | (with_reducible exact ih2 _ _ _ _ _ _ _ _)
      | (with_reducible exact opcode_varint.mono _ _ _)
      | (with_reducible exact LeO.refl _)
      | (with_reducible exact LeO.none _)
      | (with_reducible refine LeO.ite ?_ ?_)
      | (with_reducible refine LeO.bind ?_ (fun _ => ?_))
      | exact ih0 _ _ _ _ _
      | exact ih1 _ _ _ _ _ _ _ _ _ _ _
      | exact ih2 _ _ _ _ _ _ _ _
      | exact opcode_varint.mono _ _ _
      | exact LeO.none _
      | refine LeO.ite ?_ ?_
      | refine LeO.bind ?_ (fun _ => ?_)
theorem opcode_Encode.mono : ∀ a0 k, LeO (opcode_Encode.f k a0) (opcode_Encode.f (k + 1) a0) := by
  intro a0 k
  obtain ⟨ih0, ih1, ih2⟩ := opcode_Encode.mono_l k
  unfold opcode_Encode.f
  repeat' first
      | (with_reducible exact ih0 _ _ _ _ _)
      | (with_reducible exact ih1 _ _ _ _ _ _ _ _ _ _ _)
      | (with_reducible exact ih2 _ _ _ _ _ _ _ _)
      | (with_reducible exact opcode_varint.mono _ _ _)
      | (with_reducible exact LeO.refl _)
      | (with_reducible exact LeO.none _)
      | (with_reducible refine LeO.ite ?_ ?_)
      | (with_reducible refine LeO.bind ?_ (fun _ => ?_))
      | exact ih0 _ _ _ _ _
      | exact ih1 _ _ _ _ _ _ _ _ _ _ _
      | exact ih2 _ _ _ _ _ _ _ _
      | exact opcode_varint.mono _ _ _
      | exact LeO.none _
      | refine LeO.ite ?_ ?_
      | refine LeO.bind ?_ (fun _ => ?_)
set_option maxHeartbeats 8000000 in
set_option maxRecDepth 100000 in
theorem opcode_Encode.calls (k : Nat) (A0 : Option Addr) (c0 : Nat) (l0 : List (S30)) (r1 : List Int) (r2 : Int) (r3 : Int) (w : World) (hr0 : Kd.C k30 w A0 l0.length l0) (hc0 : l0.length ≤ c0) (h : opcode_Encode.f k l0 = some (r1, r2, r3)) :
    Calls Tryd.prog 7 #[.slice A0 l0.length c0] w fun e w' => ∃ v0_ : Value, e = .returned (.tuple #[v0_, .agg #[.int .i64 r2, .int .i64 r3]]) ∧ Kd.R (Kd.int .u8) 5 w' w.heap.size (fun _ => True) v0_ r1 ∧ Below w.heap.size w w' := by
  have hu25 := Tryd.underlying25
  have hu30 := Tryd.underlying30
  have hu42 := Tryd.underlying42
  have HR0 := Aside0.mk hr0
  have HC0 := Aside0.mk hc0
  clear hr0 hc0
  have HB := Aside0.mk (Below.refl w.heap.size w)
  have H : (if (l0.length : Int) > 60000 then ((opcode_fault.f 2 (-1)).bind fun bt149 => (some (([] : List Int), bt149.1, bt149.2))) else ((opcode_table.f).bind fun t151 => (opcode_Encode.l0 k ([] : List Int) t151 l0 (l0.length : Int) 0))) = some (r1, r2, r3) := h
  clear h
  by_cases c2 : (l0.length : Int) > 60000
  · rw [if_pos c2] at H
    have c2b0 : decide (60000 < (l0.length : Int)) = true := decide_eq_true c2
    have c2b1 : decide (60000 < l0.length) = true := decide_eq_true (by omega)
    clear c2
    replace H := Option.bind_eq_some_iff.mp H
    obtain ⟨⟨t149, t150⟩, A30, H⟩ := H
    replace H : (some (([] : List Int), t149, t150)) = some (r1, r2, r3) := H
    have A3 := Aside0.mk A30
    clear A30
    simp only [Option.some.injEq, Prod.mk.injEq] at H
    obtain ⟨rfl, rfl, rfl⟩ := H
    go_enter Tryd.func7, Tryd.ntmps7
    go_wp2_with (first | ((with_reducible refine gate_dst (N := 3) rfl ?_); refine box_event ?hg (N := 3) ?hd (cs := #[.int .i64 0, .int .i64 0]) (t := 25) ?hr ?_; (case hd => rfl); (case hg => rfl); (case hr => first | (go_simp; done) | (go_simp; rfl)); intro gb148 hg w4 hbox hb; have n0_ := Aside0.mk (below_step (by repeat (first | (with_reducible first | exact HB.out | apply below_alloc | apply pw_below_drewN | apply below_drew1) | exact HB.out)) hb); have n1_ := Aside0.mk (hbox); have n2_ := Aside0.mk ((by rw [hg]; exact (below_size (by repeat (first | (with_reducible first | exact HB.out | apply below_alloc | apply pw_below_drewN | apply below_drew1) | exact HB.out))) : w.heap.size ≤ gb148)); have n3_ := Aside0.mk ((by rw [hg]; exact (below_size (by repeat (first | (with_reducible first | exact HB.out | apply below_alloc | apply pw_below_drewN | apply below_drew1) | exact HB.out))) : w.heap.size ≤ gb148)); clear HB; have HB := n0_; have BK148 := n1_; have GW148 := n2_; have GE148 := n3_; clear n0_ n1_ n2_ n3_; clear hb hbox hg) | ((with_reducible refine gate_callee (f := 11) rfl ?_); refine goesL_ (some 14) rfl rfl Tryd.func11 (by kernel_rfl) rfl #[.int .i64 2, .int .i64 (-1)] rfl (by (try simp only [List.map_toArray, List.map_cons, List.map_nil]); first | done | rfl | (simp only [List.length_drop, List.length_take]; rfl)) ?_; (with_reducible refine (opcode_fault.calls 2 (-1) t149 t150 _ A3.out).mono ?_); rintro e w5 ⟨rfl, hb⟩; refine ⟨_, rfl, ?_⟩; have n0_ := Aside0.mk (blk_below (g := gb148) (o := .cells #[.int .i64 0, .int .i64 0] 25 (0, 0)) (by (with_reducible repeat (first | refine blk_drewN ?_ _ | refine blk_drew ?_ | refine blk_alloc ?_ _)); exact BK148.out) hb); have n1_ := Aside0.mk (below_step (by repeat (first | (with_reducible first | exact HB.out | apply below_alloc | apply pw_below_drewN | apply below_drew1 | refine below_set ?_ GE148.out) | exact HB.out)) hb); clear BK148; clear HB; have BK148 := n0_; have HB := n1_; clear n0_ n1_; (try clear hb); (try clear hb2); (try clear hk); (try clear hi); have hcz6_0 : w5.cell? ⟨gb148, 0, none⟩ = some (.int .i64 0) := (blk_cell BK148.out 0).trans rfl; have hcz6_1 : w5.cell? ⟨gb148, 1, none⟩ = some (.int .i64 0) := (blk_cell BK148.out 1).trans rfl; have hfz6_0 := blk_frozen BK148.out 0; have hfz6_1 := blk_frozen BK148.out 1))
    refine bodyPost_ret (results_tc rfl _ _ gb148 25 #[.int .i64 t149, .int .i64 t150] (0, 0) _ rfl (by (with_reducible repeat (first | refine blk_drewN ?_ _ | refine blk_drew ?_ | refine blk_alloc ?_ _)); refine blk_put (cs := #[.int .i64 t149, .int .i64 0]) ?_ 1 _ rfl; (with_reducible repeat (first | refine blk_drewN ?_ _ | refine blk_drew ?_ | refine blk_alloc ?_ _)); refine blk_put (cs := #[.int .i64 0, .int .i64 0]) ?_ 0 _ rfl; (with_reducible repeat (first | refine blk_drewN ?_ _ | refine blk_drew ?_ | refine blk_alloc ?_ _)); exact BK148.out) Tryd.underlying25 rfl (by kernel_rfl)) rfl ?_
    exact ⟨_, by first | rfl | (simp [errW_none, errW_some] <;> rfl) | (simp [*, errW_none, errW_some] <;> rfl), by first | exact Kd.R_nil _ _ _ _ _ | exact Kd.N_nil _ _ _ _ _ | exact Kd.V_nil _ _ _ _ _ | exact Kd.Q_nil _ _ _ _ _ | exact Kd.S_nil _ _ _ _ _, by repeat (first | (with_reducible first | exact HB.out | apply below_alloc | apply pw_below_drewN | apply below_drew1 | refine below_set ?_ GE148.out) | exact HB.out)⟩
  · rw [if_neg c2] at H
    have c2b0 : decide (60000 < (l0.length : Int)) = false := decide_eq_false c2
    have c2b1 : decide (60000 < l0.length) = false := decide_eq_false (by omega)
    clear c2
    replace H := Option.bind_eq_some_iff.mp H
    obtain ⟨t151, A70, H⟩ := H
    replace H : (opcode_Encode.l0 k ([] : List Int) t151 l0 (l0.length : Int) 0) = some (r1, r2, r3) := H
    have A7 := Aside0.mk A70
    clear A70
    have H' := Aside0.mk H
    clear H
    go_enter Tryd.func7, Tryd.ntmps7
    go_wp2_with (first | ((with_reducible refine gate_dst (N := 3) rfl ?_); refine box_event ?hg (N := 3) ?hd (cs := #[.int .i64 0, .int .i64 0]) (t := 25) ?hr ?_; (case hd => rfl); (case hg => rfl); (case hr => first | (go_simp; done) | (go_simp; rfl)); intro gb148 hg w8 hbox hb; have n0_ := Aside0.mk (below_step (by repeat (first | (with_reducible first | exact HB.out | apply below_alloc | apply pw_below_drewN | apply below_drew1) | exact HB.out)) hb); have n1_ := Aside0.mk (hbox); have n2_ := Aside0.mk ((by rw [hg]; exact (below_size (by repeat (first | (with_reducible first | exact HB.out | apply below_alloc | apply pw_below_drewN | apply below_drew1) | exact HB.out))) : w.heap.size ≤ gb148)); have n3_ := Aside0.mk ((by rw [hg]; exact (below_size (by repeat (first | (with_reducible first | exact HB.out | apply below_alloc | apply pw_below_drewN | apply below_drew1) | exact HB.out))) : w.heap.size ≤ gb148)); clear HB; have HB := n0_; have BK148 := n1_; have GW148 := n2_; have GE148 := n3_; clear n0_ n1_ n2_ n3_; clear hb hbox hg) | ((with_reducible refine gate_callee (f := 9) rfl ?_); refine goesL_ (some 15) rfl rfl Tryd.func9 (by kernel_rfl) rfl #[] rfl (by (try simp only [List.map_toArray, List.map_cons, List.map_nil]); first | done | rfl | (simp only [List.length_drop, List.length_take]; rfl)) ?_; (with_reducible refine (opcode_table.calls  t151 _ A7.out).mono ?_); rintro e w9 ⟨v152, rfl, ho0, hb⟩; refine ⟨_, rfl, ?_⟩; have n0_ := Aside0.mk (Kd.R_lower ho0 (below_size (by repeat (first | (with_reducible first | exact HB.out | apply below_alloc | apply pw_below_drewN | apply below_drew1 | refine below_set ?_ GE148.out) | exact HB.out)))); have n1_ := Aside0.mk (blk_below (g := gb148) (o := .cells #[.int .i64 0, .int .i64 0] 25 (0, 0)) (by (with_reducible repeat (first | refine blk_drewN ?_ _ | refine blk_drew ?_ | refine blk_alloc ?_ _)); exact BK148.out) hb); have n2_ := Aside0.mk (below_step (by repeat (first | (with_reducible first | exact HB.out | apply below_alloc | apply pw_below_drewN | apply below_drew1 | refine below_set ?_ GE148.out) | exact HB.out)) hb); clear BK148; clear HB; have HO153 := n0_; have BK148 := n1_; have HB := n2_; clear n0_ n1_ n2_; (try clear hb); (try clear hb2); (try clear hk); (try clear hi); (try clear ho0)))
    go_loopg [4, 18] k (fun kq v4 v18 w' => ∃ (x4_1 : List Int) (x18_1 : Int) (x149000_1 : Int) (x149001_1 : Int), v18 = .int .i64 x18_1 ∧ Aside0 (opcode_Encode.l0 kq x4_1 t151 l0 (l0.length : Int) x18_1 = some (r1, r2, r3)) ∧ Aside0 (kq ≤ k) ∧ Aside0 (Kd.R (Kd.int .u8) 5 w' w.heap.size (fun _ => True) v4 x4_1) ∧ Aside0 (Kd.R k42 42 w' w.heap.size (fun _ => True) v152 t151) ∧ Aside0 (w'.heap[gb148]? = some (.cells #[.int .i64 x149000_1, .int .i64 x149001_1] 25 (0, 0))) ∧ Aside0 (Below w.heap.size w w'))
    case atStart => exact ⟨(([] : List Int)), (0), (0), (0), (by first | rfl | (simp; done) | (simp [*]; done)), H', ⟨Nat.le_refl _⟩, ⟨by first | exact Kd.R_nil _ _ _ _ _ | exact Kd.N_nil _ _ _ _ _ | exact Kd.V_nil _ _ _ _ _ | exact Kd.Q_nil _ _ _ _ _ | exact Kd.S_nil _ _ _ _ _⟩, ⟨by (with_reducible repeat (first | apply Kd.R_alloc | apply Kd.R_drewN | apply Kd.R_drew)); exact HO153.out⟩, ⟨by (with_reducible repeat (first | refine blk_drewN ?_ _ | refine blk_drew ?_ | refine blk_alloc ?_ _)); exact BK148.out⟩, ⟨by repeat (first | (with_reducible first | exact HB.out | apply below_alloc | apply pw_below_drewN | apply below_drew1 | refine below_set ?_ GE148.out) | exact HB.out)⟩⟩
    case round =>
      clear H'
      try clear c1
      try clear c2
      try clear c2b0
      try clear c2b1
      try clear p2
      try clear c7
      try clear c9
      try clear hcz6_0
      try clear hcz6_1
      try clear hfz6_0
      try clear hfz6_1
      obtain ⟨x4_1, x18_1, x149000_1, x149001_1, rfl, HA, HK1, HO_4, HO_5, BK148, HB⟩ := hrel
      cases gk with
      | zero => exact absurd HA.out (by simp [opcode_Encode.l0])
      | succ k1 =>
        have H := HA.out
        clear HA
        simp only [opcode_Encode.l0] at H
        by_cases c10 : x18_1 < (l0.length : Int)
        · rw [if_pos c10] at H
          have c10b0 : decide (x18_1 < (l0.length : Int)) = true := decide_eq_true c10
          clear c10
          by_cases c11 : 0 ≤ x18_1
          · rw [if_pos c11] at H
            have c11b0 : decide (0 ≤ x18_1) = true := decide_eq_true c11
            clear c11
            by_cases c12 : x18_1 < (l0.length : Int)
            · rw [if_pos c12] at H
              have c12b0 : decide (x18_1 < (l0.length : Int)) = true := decide_eq_true c12
              clear c12
              replace H := Option.bind_eq_some_iff.mp H
              obtain ⟨t156, A130, H⟩ := H
              replace H : (if t156 = true then (if 0 ≤ ((rd_T30 l0 x18_1).f0) then (if ((rd_T30 l0 x18_1).f0) < (t151.length : Int) then ((opcode_operands.f ((rd_T42 t151 ((rd_T30 l0 x18_1).f0)).f0) ((rd_T42 t151 ((rd_T30 l0 x18_1).f0)).f1) ((rd_T42 t151 ((rd_T30 l0 x18_1).f0)).f2)).bind fun t160 => (if ((rd_T30 l0 x18_1).f1) < 0 then (opcode_Encode.j1 k1 x4_1 t151 x18_1 t160 l0 (l0.length : Int) x18_1 true ((rd_T30 l0 x18_1).f0) ((rd_T30 l0 x18_1).f1) ((rd_T30 l0 x18_1).f2)) else (if ((rd_T30 l0 x18_1).f2) < 0 then (opcode_Encode.j1 k1 x4_1 t151 x18_1 t160 l0 (l0.length : Int) x18_1 true ((rd_T30 l0 x18_1).f0) ((rd_T30 l0 x18_1).f1) ((rd_T30 l0 x18_1).f2)) else (if ((rd_T30 l0 x18_1).f1) > 16000 then (opcode_Encode.j1 k1 x4_1 t151 x18_1 t160 l0 (l0.length : Int) x18_1 true ((rd_T30 l0 x18_1).f0) ((rd_T30 l0 x18_1).f1) ((rd_T30 l0 x18_1).f2)) else (if ((rd_T30 l0 x18_1).f2) > 16000 then (opcode_Encode.j1 k1 x4_1 t151 x18_1 t160 l0 (l0.length : Int) x18_1 true ((rd_T30 l0 x18_1).f0) ((rd_T30 l0 x18_1).f1) ((rd_T30 l0 x18_1).f2)) else (if t160 < 2 then (if ((rd_T30 l0 x18_1).f2) = 0 then (if t160 < 1 then (opcode_Encode.j1 k1 x4_1 t151 x18_1 t160 l0 (l0.length : Int) x18_1 (((rd_T30 l0 x18_1).f1) != 0) ((rd_T30 l0 x18_1).f0) ((rd_T30 l0 x18_1).f1) ((rd_T30 l0 x18_1).f2)) else (opcode_Encode.j1 k1 x4_1 t151 x18_1 t160 l0 (l0.length : Int) x18_1 false ((rd_T30 l0 x18_1).f0) ((rd_T30 l0 x18_1).f1) ((rd_T30 l0 x18_1).f2))) else (opcode_Encode.j1 k1 x4_1 t151 x18_1 t160 l0 (l0.length : Int) x18_1 true ((rd_T30 l0 x18_1).f0) ((rd_T30 l0 x18_1).f1) ((rd_T30 l0 x18_1).f2))) else (if t160 < 1 then (opcode_Encode.j1 k1 x4_1 t151 x18_1 t160 l0 (l0.length : Int) x18_1 (((rd_T30 l0 x18_1).f1) != 0) ((rd_T30 l0 x18_1).f0) ((rd_T30 l0 x18_1).f1) ((rd_T30 l0 x18_1).f2)) else (opcode_Encode.j1 k1 x4_1 t151 x18_1 t160 l0 (l0.length : Int) x18_1 false ((rd_T30 l0 x18_1).f0) ((rd_T30 l0 x18_1).f1) ((rd_T30 l0 x18_1).f2))))))))) else (none)) else (none)) else ((opcode_fault.f 5 x18_1).bind fun bt157 => (some (([] : List Int), bt157.1, bt157.2)))) = some (r1, r2, r3) := H
              have A13 := Aside0.mk A130
              clear A130
              by_cases c14 : t156 = true
              · subst c14
                have H1 : (if 0 ≤ ((rd_T30 l0 x18_1).f0) then (if ((rd_T30 l0 x18_1).f0) < (t151.length : Int) then ((opcode_operands.f ((rd_T42 t151 ((rd_T30 l0 x18_1).f0)).f0) ((rd_T42 t151 ((rd_T30 l0 x18_1).f0)).f1) ((rd_T42 t151 ((rd_T30 l0 x18_1).f0)).f2)).bind fun t160 => (if ((rd_T30 l0 x18_1).f1) < 0 then (opcode_Encode.j1 k1 x4_1 t151 x18_1 t160 l0 (l0.length : Int) x18_1 true ((rd_T30 l0 x18_1).f0) ((rd_T30 l0 x18_1).f1) ((rd_T30 l0 x18_1).f2)) else (if ((rd_T30 l0 x18_1).f2) < 0 then (opcode_Encode.j1 k1 x4_1 t151 x18_1 t160 l0 (l0.length : Int) x18_1 true ((rd_T30 l0 x18_1).f0) ((rd_T30 l0 x18_1).f1) ((rd_T30 l0 x18_1).f2)) else (if ((rd_T30 l0 x18_1).f1) > 16000 then (opcode_Encode.j1 k1 x4_1 t151 x18_1 t160 l0 (l0.length : Int) x18_1 true ((rd_T30 l0 x18_1).f0) ((rd_T30 l0 x18_1).f1) ((rd_T30 l0 x18_1).f2)) else (if ((rd_T30 l0 x18_1).f2) > 16000 then (opcode_Encode.j1 k1 x4_1 t151 x18_1 t160 l0 (l0.length : Int) x18_1 true ((rd_T30 l0 x18_1).f0) ((rd_T30 l0 x18_1).f1) ((rd_T30 l0 x18_1).f2)) else (if t160 < 2 then (if ((rd_T30 l0 x18_1).f2) = 0 then (if t160 < 1 then (opcode_Encode.j1 k1 x4_1 t151 x18_1 t160 l0 (l0.length : Int) x18_1 (((rd_T30 l0 x18_1).f1) != 0) ((rd_T30 l0 x18_1).f0) ((rd_T30 l0 x18_1).f1) ((rd_T30 l0 x18_1).f2)) else (opcode_Encode.j1 k1 x4_1 t151 x18_1 t160 l0 (l0.length : Int) x18_1 false ((rd_T30 l0 x18_1).f0) ((rd_T30 l0 x18_1).f1) ((rd_T30 l0 x18_1).f2))) else (opcode_Encode.j1 k1 x4_1 t151 x18_1 t160 l0 (l0.length : Int) x18_1 true ((rd_T30 l0 x18_1).f0) ((rd_T30 l0 x18_1).f1) ((rd_T30 l0 x18_1).f2))) else (if t160 < 1 then (opcode_Encode.j1 k1 x4_1 t151 x18_1 t160 l0 (l0.length : Int) x18_1 (((rd_T30 l0 x18_1).f1) != 0) ((rd_T30 l0 x18_1).f0) ((rd_T30 l0 x18_1).f1) ((rd_T30 l0 x18_1).f2)) else (opcode_Encode.j1 k1 x4_1 t151 x18_1 t160 l0 (l0.length : Int) x18_1 false ((rd_T30 l0 x18_1).f0) ((rd_T30 l0 x18_1).f1) ((rd_T30 l0 x18_1).f2))))))))) else (none)) else (none)) = some (r1, r2, r3) := by rw [if_pos rfl] at H; exact H
                clear H
                have H := H1
                clear H1
                by_cases c15 : 0 ≤ ((rd_T30 l0 x18_1).f0)
                · rw [if_pos c15] at H
                  have c15b0 : decide (0 ≤ ((rd_T30 l0 x18_1).f0)) = true := decide_eq_true c15
                  clear c15
                  by_cases c16 : ((rd_T30 l0 x18_1).f0) < (t151.length : Int)
                  · rw [if_pos c16] at H
                    have c16b0 : decide (((rd_T30 l0 x18_1).f0) < (t151.length : Int)) = true := decide_eq_true c16
                    clear c16
                    replace H := Option.bind_eq_some_iff.mp H
                    obtain ⟨t160, A170, H⟩ := H
                    replace H : (if ((rd_T30 l0 x18_1).f1) < 0 then (opcode_Encode.j1 k1 x4_1 t151 x18_1 t160 l0 (l0.length : Int) x18_1 true ((rd_T30 l0 x18_1).f0) ((rd_T30 l0 x18_1).f1) ((rd_T30 l0 x18_1).f2)) else (if ((rd_T30 l0 x18_1).f2) < 0 then (opcode_Encode.j1 k1 x4_1 t151 x18_1 t160 l0 (l0.length : Int) x18_1 true ((rd_T30 l0 x18_1).f0) ((rd_T30 l0 x18_1).f1) ((rd_T30 l0 x18_1).f2)) else (if ((rd_T30 l0 x18_1).f1) > 16000 then (opcode_Encode.j1 k1 x4_1 t151 x18_1 t160 l0 (l0.length : Int) x18_1 true ((rd_T30 l0 x18_1).f0) ((rd_T30 l0 x18_1).f1) ((rd_T30 l0 x18_1).f2)) else (if ((rd_T30 l0 x18_1).f2) > 16000 then (opcode_Encode.j1 k1 x4_1 t151 x18_1 t160 l0 (l0.length : Int) x18_1 true ((rd_T30 l0 x18_1).f0) ((rd_T30 l0 x18_1).f1) ((rd_T30 l0 x18_1).f2)) else (if t160 < 2 then (if ((rd_T30 l0 x18_1).f2) = 0 then (if t160 < 1 then (opcode_Encode.j1 k1 x4_1 t151 x18_1 t160 l0 (l0.length : Int) x18_1 (((rd_T30 l0 x18_1).f1) != 0) ((rd_T30 l0 x18_1).f0) ((rd_T30 l0 x18_1).f1) ((rd_T30 l0 x18_1).f2)) else (opcode_Encode.j1 k1 x4_1 t151 x18_1 t160 l0 (l0.length : Int) x18_1 false ((rd_T30 l0 x18_1).f0) ((rd_T30 l0 x18_1).f1) ((rd_T30 l0 x18_1).f2))) else (opcode_Encode.j1 k1 x4_1 t151 x18_1 t160 l0 (l0.length : Int) x18_1 true ((rd_T30 l0 x18_1).f0) ((rd_T30 l0 x18_1).f1) ((rd_T30 l0 x18_1).f2))) else (if t160 < 1 then (opcode_Encode.j1 k1 x4_1 t151 x18_1 t160 l0 (l0.length : Int) x18_1 (((rd_T30 l0 x18_1).f1) != 0) ((rd_T30 l0 x18_1).f0) ((rd_T30 l0 x18_1).f1) ((rd_T30 l0 x18_1).f2)) else (opcode_Encode.j1 k1 x4_1 t151 x18_1 t160 l0 (l0.length : Int) x18_1 false ((rd_T30 l0 x18_1).f0) ((rd_T30 l0 x18_1).f1) ((rd_T30 l0 x18_1).f2)))))))) = some (r1, r2, r3) := H
                    have A17 := Aside0.mk A170
                    clear A170
                    have HC18 := Aside0.mk H
                    clear H
                    have p154 : 0 ≤ (x18_1 : Int) := of_decide_eq_true (by first | (with_reducible assumption) | assumption)
                    have q154 : x18_1 < (l0.length : Int) := of_decide_eq_true (by first | (with_reducible assumption) | assumption)
                    obtain ⟨ad154, e154, hx154_0, hx154_1, hx154_2⟩ := at_T30 HR0.out x18_1 p154 q154
                    cases e154
                    replace hx154_0 := (HB.out.cell (World.block_lt_of_cell? w _ hx154_0)).trans hx154_0
                    replace hx154_1 := (HB.out.cell (World.block_lt_of_cell? w _ hx154_1)).trans hx154_1
                    replace hx154_2 := (HB.out.cell (World.block_lt_of_cell? w _ hx154_2)).trans hx154_2
                    replace p154 := eq_true p154
                    replace q154 := eq_true q154
                    go_upto_region 11 with (first | ((with_reducible refine gate_dst (N := 7) rfl ?_); refine box_event ?hg (N := 7) ?hd (cs := #[.int .i64 0, .int .i64 0, .int .i64 0]) (t := 30) ?hr ?_; (case hd => rfl); (case hg => rfl); (case hr => first | (go_simp; done) | (go_simp; rfl)); intro gb155 hg w19 hbox hb; have n0_ := Aside0.mk (Kd.R_below (by (with_reducible repeat (first | apply Kd.R_alloc | apply Kd.R_drewN | apply Kd.R_drew)); exact HO_4.out) hb); have n1_ := Aside0.mk (Kd.R_below (by (with_reducible repeat (first | apply Kd.R_alloc | apply Kd.R_drewN | apply Kd.R_drew)); exact HO_5.out) hb); have n2_ := Aside0.mk (blk_below (g := gb148) (o := .cells #[.int .i64 x149000_1, .int .i64 x149001_1] 25 (0, 0)) (by (with_reducible repeat (first | refine blk_drewN ?_ _ | refine blk_drew ?_ | refine blk_alloc ?_ _)); exact BK148.out) hb); have n3_ := Aside0.mk (below_step (by repeat (first | (with_reducible first | exact HB.out | apply below_alloc | apply pw_below_drewN | apply below_drew1 | refine below_set ?_ GE148.out) | exact HB.out)) hb); have n4_ := Aside0.mk (hbox); have n5_ := Aside0.mk ((by rw [hg]; exact (below_size (by repeat (first | (with_reducible first | exact HB.out | apply below_alloc | apply pw_below_drewN | apply below_drew1 | refine below_set ?_ GE148.out) | exact HB.out))) : w.heap.size ≤ gb155)); have n6_ := Aside0.mk ((by rw [hg]; exact (below_size (by repeat (first | (with_reducible first | exact HB.out | apply below_alloc | apply pw_below_drewN | apply below_drew1 | refine below_set ?_ GE148.out) | exact HB.out))) : w.heap.size ≤ gb155)); have n7_ := Aside0.mk ((by rw [hg]; exact Nat.ne_of_lt (blk_lt (g := gb148) (o := .cells #[.int .i64 x149000_1, .int .i64 x149001_1] 25 (0, 0)) (by (with_reducible repeat (first | refine blk_drewN ?_ _ | refine blk_drew ?_ | refine blk_alloc ?_ _)); exact BK148.out)) : gb148 ≠ gb155)); have n8_ := Aside0.mk ((by rw [hg]; exact Nat.ne_of_gt (blk_lt (g := gb148) (o := .cells #[.int .i64 x149000_1, .int .i64 x149001_1] 25 (0, 0)) (by (with_reducible repeat (first | refine blk_drewN ?_ _ | refine blk_drew ?_ | refine blk_alloc ?_ _)); exact BK148.out)) : gb155 ≠ gb148)); clear HO_4; clear HO_5; clear BK148; clear HB; have HO_4 := n0_; have HO_5 := n1_; have BK148 := n2_; have HB := n3_; have BK155 := n4_; have GW155 := n5_; have GE155 := n6_; have NB148_155 := n7_; have NB155_148 := n8_; clear n0_ n1_ n2_ n3_ n4_ n5_ n6_ n7_ n8_; clear hb hbox hg; have hnb20 := NB155_148.out; have hnc20 := NB148_155.out; have hcz21_0 : w19.cell? ⟨gb155, 0, none⟩ = some (.int .i64 0) := (blk_cell BK155.out 0).trans rfl; have hcz21_1 : w19.cell? ⟨gb155, 1, none⟩ = some (.int .i64 0) := (blk_cell BK155.out 1).trans rfl; have hcz21_2 : w19.cell? ⟨gb155, 2, none⟩ = some (.int .i64 0) := (blk_cell BK155.out 2).trans rfl; have hfz21_0 := blk_frozen BK155.out 0; have hfz21_1 := blk_frozen BK155.out 1; have hfz21_2 := blk_frozen BK155.out 2; obtain ⟨Ao22, co22, eo22⟩ := Kd.R_slice HO_5.out; subst eo22) | ((with_reducible refine gate_callee (f := 10) rfl ?_); refine goesL_ (some 27) rfl rfl Tryd.func10 (by kernel_rfl) rfl #[.int .i64 ((rd_T30 l0 x18_1).f0), .int .i64 (t151.length : Int)] rfl (by (try simp only [List.map_toArray, List.map_cons, List.map_nil]); first | done | rfl | (simp only [List.length_drop, List.length_take]; rfl)) ?_; (with_reducible refine (opcode_within.calls ((rd_T30 l0 x18_1).f0) (t151.length : Int) true _ A13.out).mono ?_); rintro e w' ⟨rfl, ⟨nd, rfl⟩⟩; refine ⟨_, rfl, ?_⟩; have p159 : 0 ≤ (((rd_T30 l0 x18_1).f0) : Int) := of_decide_eq_true (by first | (with_reducible assumption) | assumption); have q159 : ((rd_T30 l0 x18_1).f0) < (t151.length : Int) := of_decide_eq_true (by first | (with_reducible assumption) | assumption); obtain ⟨ad159, e159, hx159_0, hx159_1, hx159_2⟩ := at_T42 (Kd.R_reads' HO_5.out).2.2 ((rd_T30 l0 x18_1).f0) p159 q159; cases e159; have hn159_0 : ad159.block ≠ gb155 := Kd.own_blk (Kd.R_ne HO_5.out BK155.out (by decide)); have hn159_1 : ad159.block ≠ gb155 := Kd.own_blk (Kd.R_ne HO_5.out BK155.out (by decide)); have hn159_2 : ad159.block ≠ gb155 := Kd.own_blk (Kd.R_ne HO_5.out BK155.out (by decide)); replace hx159_0 := (cell_far (p := ⟨gb155, 0, none⟩) (by first | (rw [add_block]; exact hn159_0) | (show (Addr.add _ _).block ≠ _; rw [add_block]; exact hn159_0) | exact hn159_0) (.int .i64 ((rd_T30 l0 x18_1).f0))).trans hx159_0; replace hx159_1 := (cell_far (p := ⟨gb155, 0, none⟩) (by first | (rw [add_block]; exact hn159_0) | (show (Addr.add _ _).block ≠ _; rw [add_block]; exact hn159_0) | exact hn159_0) (.int .i64 ((rd_T30 l0 x18_1).f0))).trans hx159_1; replace hx159_2 := (cell_far (p := ⟨gb155, 0, none⟩) (by first | (rw [add_block]; exact hn159_0) | (show (Addr.add _ _).block ≠ _; rw [add_block]; exact hn159_0) | exact hn159_0) (.int .i64 ((rd_T30 l0 x18_1).f0))).trans hx159_2; replace hx159_0 := (cell_far (p := ⟨gb155, 1, none⟩) (by first | (rw [add_block]; exact hn159_1) | (show (Addr.add _ _).block ≠ _; rw [add_block]; exact hn159_1) | exact hn159_1) (.int .i64 ((rd_T30 l0 x18_1).f1))).trans hx159_0; replace hx159_1 := (cell_far (p := ⟨gb155, 1, none⟩) (by first | (rw [add_block]; exact hn159_1) | (show (Addr.add _ _).block ≠ _; rw [add_block]; exact hn159_1) | exact hn159_1) (.int .i64 ((rd_T30 l0 x18_1).f1))).trans hx159_1; replace hx159_2 := (cell_far (p := ⟨gb155, 1, none⟩) (by first | (rw [add_block]; exact hn159_1) | (show (Addr.add _ _).block ≠ _; rw [add_block]; exact hn159_1) | exact hn159_1) (.int .i64 ((rd_T30 l0 x18_1).f1))).trans hx159_2; replace hx159_0 := (cell_far (p := ⟨gb155, 2, none⟩) (by first | (rw [add_block]; exact hn159_2) | (show (Addr.add _ _).block ≠ _; rw [add_block]; exact hn159_2) | exact hn159_2) (.int .i64 ((rd_T30 l0 x18_1).f2))).trans hx159_0; replace hx159_1 := (cell_far (p := ⟨gb155, 2, none⟩) (by first | (rw [add_block]; exact hn159_2) | (show (Addr.add _ _).block ≠ _; rw [add_block]; exact hn159_2) | exact hn159_2) (.int .i64 ((rd_T30 l0 x18_1).f2))).trans hx159_1; replace hx159_2 := (cell_far (p := ⟨gb155, 2, none⟩) (by first | (rw [add_block]; exact hn159_2) | (show (Addr.add _ _).block ≠ _; rw [add_block]; exact hn159_2) | exact hn159_2) (.int .i64 ((rd_T30 l0 x18_1).f2))).trans hx159_2; clear hn159_0; clear hn159_1; clear hn159_2; replace p159 := eq_true p159; replace q159 := eq_true q159) | ((with_reducible refine gate_callee (f := 12) rfl ?_); refine goesL_ (some 36) rfl rfl Tryd.func12 (by kernel_rfl) rfl #[.agg #[.string ((rd_T42 t151 ((rd_T30 l0 x18_1).f0)).f0), .int .i64 ((rd_T42 t151 ((rd_T30 l0 x18_1).f0)).f1), .int .i64 ((rd_T42 t151 ((rd_T30 l0 x18_1).f0)).f2)]] rfl (by (try simp only [List.map_toArray, List.map_cons, List.map_nil]); first | done | rfl | (simp only [List.length_drop, List.length_take]; rfl)) ?_; (with_reducible refine (opcode_operands.calls ((rd_T42 t151 ((rd_T30 l0 x18_1).f0)).f0) ((rd_T42 t151 ((rd_T30 l0 x18_1).f0)).f1) ((rd_T42 t151 ((rd_T30 l0 x18_1).f0)).f2) t160 _ A17.out).mono ?_); rintro e w23 ⟨rfl, hb⟩; refine ⟨_, rfl, ?_⟩; have n0_ := Aside0.mk (Kd.R_below (by (with_reducible repeat (first | apply Kd.R_alloc | apply Kd.R_drewN | apply Kd.R_drew)); exact (Kd.R_mono (Kd.R_far (p := ⟨gb155, 2, none⟩) (Kd.R_far (p := ⟨gb155, 1, none⟩) (Kd.R_far (p := ⟨gb155, 0, none⟩) (Kd.R_types HO_4.out BK155.out (by decide)) (fun _ hk => hk.2) (.int .i64 ((rd_T30 l0 x18_1).f0))) (fun _ hk => hk.2) (.int .i64 ((rd_T30 l0 x18_1).f1))) (fun _ hk => hk.2) (.int .i64 ((rd_T30 l0 x18_1).f2))) (fun _ h_ => h_.1))) hb); have n1_ := Aside0.mk (Kd.R_below (by (with_reducible repeat (first | apply Kd.R_alloc | apply Kd.R_drewN | apply Kd.R_drew)); exact (Kd.R_mono (Kd.R_far (p := ⟨gb155, 2, none⟩) (Kd.R_far (p := ⟨gb155, 1, none⟩) (Kd.R_far (p := ⟨gb155, 0, none⟩) (Kd.R_types HO_5.out BK155.out (by decide)) (fun _ hk => hk.2) (.int .i64 ((rd_T30 l0 x18_1).f0))) (fun _ hk => hk.2) (.int .i64 ((rd_T30 l0 x18_1).f1))) (fun _ hk => hk.2) (.int .i64 ((rd_T30 l0 x18_1).f2))) (fun _ h_ => h_.1))) hb); have n2_ := Aside0.mk (blk_below (g := gb148) (o := .cells #[.int .i64 x149000_1, .int .i64 x149001_1] 25 (0, 0)) (by (with_reducible repeat (first | refine blk_drewN ?_ _ | refine blk_drew ?_ | refine blk_alloc ?_ _)); refine blk_far ?_ NB148_155.out _; (with_reducible repeat (first | refine blk_drewN ?_ _ | refine blk_drew ?_ | refine blk_alloc ?_ _)); refine blk_far ?_ NB148_155.out _; (with_reducible repeat (first | refine blk_drewN ?_ _ | refine blk_drew ?_ | refine blk_alloc ?_ _)); refine blk_far ?_ NB148_155.out _; (with_reducible repeat (first | refine blk_drewN ?_ _ | refine blk_drew ?_ | refine blk_alloc ?_ _)); exact BK148.out) hb); have n3_ := Aside0.mk (blk_below (g := gb155) (o := .cells #[.int .i64 ((rd_T30 l0 x18_1).f0), .int .i64 ((rd_T30 l0 x18_1).f1), .int .i64 ((rd_T30 l0 x18_1).f2)] 30 (0, 0)) (by (with_reducible repeat (first | refine blk_drewN ?_ _ | refine blk_drew ?_ | refine blk_alloc ?_ _)); refine blk_put (cs := #[.int .i64 ((rd_T30 l0 x18_1).f0), .int .i64 ((rd_T30 l0 x18_1).f1), .int .i64 0]) ?_ 2 _ rfl; (with_reducible repeat (first | refine blk_drewN ?_ _ | refine blk_drew ?_ | refine blk_alloc ?_ _)); refine blk_put (cs := #[.int .i64 ((rd_T30 l0 x18_1).f0), .int .i64 0, .int .i64 0]) ?_ 1 _ rfl; (with_reducible repeat (first | refine blk_drewN ?_ _ | refine blk_drew ?_ | refine blk_alloc ?_ _)); refine blk_put (cs := #[.int .i64 0, .int .i64 0, .int .i64 0]) ?_ 0 _ rfl; (with_reducible repeat (first | refine blk_drewN ?_ _ | refine blk_drew ?_ | refine blk_alloc ?_ _)); exact BK155.out) hb); have n4_ := Aside0.mk (below_step (by repeat (first | (with_reducible first | exact HB.out | apply below_alloc | apply pw_below_drewN | apply below_drew1 | refine below_set ?_ GE148.out | refine below_set ?_ GE155.out) | exact HB.out)) hb); clear HO_4; clear HO_5; clear BK148; clear BK155; clear HB; have HO_4 := n0_; have HO_5 := n1_; have BK148 := n2_; have BK155 := n3_; have HB := n4_; clear n0_ n1_ n2_ n3_ n4_; (try clear hb); (try clear hb2); (try clear hk); (try clear hi)))
                    (try simp only [Act.put, List.setIfInBounds_toArray, List.set_cons_zero, List.set_cons_succ])
                    go_cut [72] (fun v72 wc => ∃ (kq : Nat) (x72_17 : Bool), v72 = .bool x72_17 ∧ Aside0 (opcode_Encode.j1 kq x4_1 t151 x18_1 t160 l0 (l0.length : Int) x18_1 x72_17 ((rd_T30 l0 x18_1).f0) ((rd_T30 l0 x18_1).f1) ((rd_T30 l0 x18_1).f2) = some (r1, r2, r3)) ∧ Aside0 (kq ≤ k1) ∧ Aside0 (Kd.R (Kd.int .u8) 5 wc w.heap.size (fun _ => True) u4 x4_1) ∧ Aside0 (Kd.R k42 42 wc w.heap.size (fun _ => True) (.slice (some ad159) t151.length co22) t151) ∧ Aside0 (wc.heap[gb148]? = some (.cells #[.int .i64 x149000_1, .int .i64 x149001_1] 25 (0, 0))) ∧ Aside0 (wc.heap[gb155]? = some (.cells #[.int .i64 ((rd_T30 l0 x18_1).f0), .int .i64 ((rd_T30 l0 x18_1).f1), .int .i64 ((rd_T30 l0 x18_1).f2)] 30 (0, 0))) ∧ Aside0 (Below w.heap.size w wc))
                    case first =>
                      have H := HC18.out
                      clear HC18
                      by_cases c24 : ((rd_T30 l0 x18_1).f1) < 0
                      · rw [if_pos c24] at H
                        have c24b0 : decide (((rd_T30 l0 x18_1).f1) < 0) = true := decide_eq_true c24
                        clear c24
                        (first | rw [c24b0] | (simp only [i64_w, i32_w]; rw [c24b0]) | skip)
                        have H' := Aside0.mk H
                        clear H
                        have hnb25 := NB155_148.out
                        have hnc25 := NB148_155.out
                        have hcz26_0 : w23.cell? ⟨gb155, 0, none⟩ = some (.int .i64 ((rd_T30 l0 x18_1).f0)) := (blk_cell BK155.out 0).trans rfl
                        have hcz26_1 : w23.cell? ⟨gb155, 1, none⟩ = some (.int .i64 ((rd_T30 l0 x18_1).f1)) := (blk_cell BK155.out 1).trans rfl
                        have hcz26_2 : w23.cell? ⟨gb155, 2, none⟩ = some (.int .i64 ((rd_T30 l0 x18_1).f2)) := (blk_cell BK155.out 2).trans rfl
                        have hfz26_0 := blk_frozen BK155.out 0
                        have hfz26_1 := blk_frozen BK155.out 1
                        have hfz26_2 := blk_frozen BK155.out 2
                        go_wp2
                        go_meet
                        case rel => exact ⟨_, (true), (by first | rfl | (simp; done) | (simp [*]; done)), H', ⟨by have := HK1.out; first | omega | exact Nat.le_refl _⟩, ⟨by (with_reducible repeat (first | apply Kd.R_alloc | apply Kd.R_drewN | apply Kd.R_drew)); exact HO_4.out⟩, ⟨by (with_reducible repeat (first | apply Kd.R_alloc | apply Kd.R_drewN | apply Kd.R_drew)); exact HO_5.out⟩, ⟨by (with_reducible repeat (first | refine blk_drewN ?_ _ | refine blk_drew ?_ | refine blk_alloc ?_ _)); exact BK148.out⟩, ⟨by (with_reducible repeat (first | refine blk_drewN ?_ _ | refine blk_drew ?_ | refine blk_alloc ?_ _)); exact BK155.out⟩, ⟨by repeat (first | (with_reducible first | exact HB.out | apply below_alloc | apply pw_below_drewN | apply below_drew1 | refine below_set ?_ GE148.out | refine below_set ?_ GE155.out) | exact HB.out)⟩⟩
                      · rw [if_neg c24] at H
                        have c24b0 : decide (((rd_T30 l0 x18_1).f1) < 0) = false := decide_eq_false c24
                        clear c24
                        (first | rw [c24b0] | (simp only [i64_w, i32_w]; rw [c24b0]) | skip)
                        by_cases c27 : ((rd_T30 l0 x18_1).f2) < 0
                        · rw [if_pos c27] at H
                          have c27b0 : decide (((rd_T30 l0 x18_1).f2) < 0) = true := decide_eq_true c27
                          clear c27
                          have H' := Aside0.mk H
                          clear H
                          have hnb28 := NB155_148.out
                          have hnc28 := NB148_155.out
                          have hcz29_0 : w23.cell? ⟨gb155, 0, none⟩ = some (.int .i64 ((rd_T30 l0 x18_1).f0)) := (blk_cell BK155.out 0).trans rfl
                          have hcz29_1 : w23.cell? ⟨gb155, 1, none⟩ = some (.int .i64 ((rd_T30 l0 x18_1).f1)) := (blk_cell BK155.out 1).trans rfl
                          have hcz29_2 : w23.cell? ⟨gb155, 2, none⟩ = some (.int .i64 ((rd_T30 l0 x18_1).f2)) := (blk_cell BK155.out 2).trans rfl
                          have hfz29_0 := blk_frozen BK155.out 0
                          have hfz29_1 := blk_frozen BK155.out 1
                          have hfz29_2 := blk_frozen BK155.out 2
                          go_wp2
                          go_meet
                          case rel => exact ⟨_, (true), (by first | rfl | (simp; done) | (simp [*]; done)), H', ⟨by have := HK1.out; first | omega | exact Nat.le_refl _⟩, ⟨by (with_reducible repeat (first | apply Kd.R_alloc | apply Kd.R_drewN | apply Kd.R_drew)); exact HO_4.out⟩, ⟨by (with_reducible repeat (first | apply Kd.R_alloc | apply Kd.R_drewN | apply Kd.R_drew)); exact HO_5.out⟩, ⟨by (with_reducible repeat (first | refine blk_drewN ?_ _ | refine blk_drew ?_ | refine blk_alloc ?_ _)); exact BK148.out⟩, ⟨by (with_reducible repeat (first | refine blk_drewN ?_ _ | refine blk_drew ?_ | refine blk_alloc ?_ _)); exact BK155.out⟩, ⟨by repeat (first | (with_reducible first | exact HB.out | apply below_alloc | apply pw_below_drewN | apply below_drew1 | refine below_set ?_ GE148.out | refine below_set ?_ GE155.out) | exact HB.out)⟩⟩
                        · rw [if_neg c27] at H
                          have c27b0 : decide (((rd_T30 l0 x18_1).f2) < 0) = false := decide_eq_false c27
                          clear c27
                          by_cases c30 : ((rd_T30 l0 x18_1).f1) > 16000
                          · rw [if_pos c30] at H
                            have c30b0 : decide (16000 < ((rd_T30 l0 x18_1).f1)) = true := decide_eq_true c30
                            clear c30
                            have H' := Aside0.mk H
                            clear H
                            have hnb31 := NB155_148.out
                            have hnc31 := NB148_155.out
                            have hcz32_0 : w23.cell? ⟨gb155, 0, none⟩ = some (.int .i64 ((rd_T30 l0 x18_1).f0)) := (blk_cell BK155.out 0).trans rfl
                            have hcz32_1 : w23.cell? ⟨gb155, 1, none⟩ = some (.int .i64 ((rd_T30 l0 x18_1).f1)) := (blk_cell BK155.out 1).trans rfl
                            have hcz32_2 : w23.cell? ⟨gb155, 2, none⟩ = some (.int .i64 ((rd_T30 l0 x18_1).f2)) := (blk_cell BK155.out 2).trans rfl
                            have hfz32_0 := blk_frozen BK155.out 0
                            have hfz32_1 := blk_frozen BK155.out 1
                            have hfz32_2 := blk_frozen BK155.out 2
                            go_wp2
                            go_meet
                            case rel => exact ⟨_, (true), (by first | rfl | (simp; done) | (simp [*]; done)), H', ⟨by have := HK1.out; first | omega | exact Nat.le_refl _⟩, ⟨by (with_reducible repeat (first | apply Kd.R_alloc | apply Kd.R_drewN | apply Kd.R_drew)); exact HO_4.out⟩, ⟨by (with_reducible repeat (first | apply Kd.R_alloc | apply Kd.R_drewN | apply Kd.R_drew)); exact HO_5.out⟩, ⟨by (with_reducible repeat (first | refine blk_drewN ?_ _ | refine blk_drew ?_ | refine blk_alloc ?_ _)); exact BK148.out⟩, ⟨by (with_reducible repeat (first | refine blk_drewN ?_ _ | refine blk_drew ?_ | refine blk_alloc ?_ _)); exact BK155.out⟩, ⟨by repeat (first | (with_reducible first | exact HB.out | apply below_alloc | apply pw_below_drewN | apply below_drew1 | refine below_set ?_ GE148.out | refine below_set ?_ GE155.out) | exact HB.out)⟩⟩
                          · rw [if_neg c30] at H
                            have c30b0 : decide (16000 < ((rd_T30 l0 x18_1).f1)) = false := decide_eq_false c30
                            clear c30
                            by_cases c33 : ((rd_T30 l0 x18_1).f2) > 16000
                            · rw [if_pos c33] at H
                              have c33b0 : decide (16000 < ((rd_T30 l0 x18_1).f2)) = true := decide_eq_true c33
                              clear c33
                              have H' := Aside0.mk H
                              clear H
                              have hnb34 := NB155_148.out
                              have hnc34 := NB148_155.out
                              have hcz35_0 : w23.cell? ⟨gb155, 0, none⟩ = some (.int .i64 ((rd_T30 l0 x18_1).f0)) := (blk_cell BK155.out 0).trans rfl
                              have hcz35_1 : w23.cell? ⟨gb155, 1, none⟩ = some (.int .i64 ((rd_T30 l0 x18_1).f1)) := (blk_cell BK155.out 1).trans rfl
                              have hcz35_2 : w23.cell? ⟨gb155, 2, none⟩ = some (.int .i64 ((rd_T30 l0 x18_1).f2)) := (blk_cell BK155.out 2).trans rfl
                              have hfz35_0 := blk_frozen BK155.out 0
                              have hfz35_1 := blk_frozen BK155.out 1
                              have hfz35_2 := blk_frozen BK155.out 2
                              go_wp2
                              go_meet
                              case rel => exact ⟨_, (true), (by first | rfl | (simp; done) | (simp [*]; done)), H', ⟨by have := HK1.out; first | omega | exact Nat.le_refl _⟩, ⟨by (with_reducible repeat (first | apply Kd.R_alloc | apply Kd.R_drewN | apply Kd.R_drew)); exact HO_4.out⟩, ⟨by (with_reducible repeat (first | apply Kd.R_alloc | apply Kd.R_drewN | apply Kd.R_drew)); exact HO_5.out⟩, ⟨by (with_reducible repeat (first | refine blk_drewN ?_ _ | refine blk_drew ?_ | refine blk_alloc ?_ _)); exact BK148.out⟩, ⟨by (with_reducible repeat (first | refine blk_drewN ?_ _ | refine blk_drew ?_ | refine blk_alloc ?_ _)); exact BK155.out⟩, ⟨by repeat (first | (with_reducible first | exact HB.out | apply below_alloc | apply pw_below_drewN | apply below_drew1 | refine below_set ?_ GE148.out | refine below_set ?_ GE155.out) | exact HB.out)⟩⟩
                            · rw [if_neg c33] at H
                              have c33b0 : decide (16000 < ((rd_T30 l0 x18_1).f2)) = false := decide_eq_false c33
                              clear c33
                              by_cases c36 : t160 < 2
                              · rw [if_pos c36] at H
                                have c36b0 : decide (t160 < 2) = true := decide_eq_true c36
                                clear c36
                                by_cases c37 : ((rd_T30 l0 x18_1).f2) = 0
                                · rw [if_pos c37] at H
                                  have c37b0 : (((rd_T30 l0 x18_1).f2) == 0) = true := beq_iff_eq.mpr c37
                                  have c37b1 : (((rd_T30 l0 x18_1).f2) != 0) = false := bne_eq_false_iff_eq.mpr c37
                                  clear c37
                                  by_cases c38 : t160 < 1
                                  · rw [if_pos c38] at H
                                    have c38b0 : decide (t160 < 1) = true := decide_eq_true c38
                                    clear c38
                                    have H' := Aside0.mk H
                                    clear H
                                    have hnb39 := NB155_148.out
                                    have hnc39 := NB148_155.out
                                    have hcz40_0 : w23.cell? ⟨gb155, 0, none⟩ = some (.int .i64 ((rd_T30 l0 x18_1).f0)) := (blk_cell BK155.out 0).trans rfl
                                    have hcz40_1 : w23.cell? ⟨gb155, 1, none⟩ = some (.int .i64 ((rd_T30 l0 x18_1).f1)) := (blk_cell BK155.out 1).trans rfl
                                    have hcz40_2 : w23.cell? ⟨gb155, 2, none⟩ = some (.int .i64 ((rd_T30 l0 x18_1).f2)) := (blk_cell BK155.out 2).trans rfl
                                    have hfz40_0 := blk_frozen BK155.out 0
                                    have hfz40_1 := blk_frozen BK155.out 1
                                    have hfz40_2 := blk_frozen BK155.out 2
                                    go_wp2
                                    go_meet
                                    case rel => exact ⟨_, ((((rd_T30 l0 x18_1).f1) != 0)), (by first | rfl | (simp; done) | (simp [*]; done)), H', ⟨by have := HK1.out; first | omega | exact Nat.le_refl _⟩, ⟨by (with_reducible repeat (first | apply Kd.R_alloc | apply Kd.R_drewN | apply Kd.R_drew)); exact HO_4.out⟩, ⟨by (with_reducible repeat (first | apply Kd.R_alloc | apply Kd.R_drewN | apply Kd.R_drew)); exact HO_5.out⟩, ⟨by (with_reducible repeat (first | refine blk_drewN ?_ _ | refine blk_drew ?_ | refine blk_alloc ?_ _)); exact BK148.out⟩, ⟨by (with_reducible repeat (first | refine blk_drewN ?_ _ | refine blk_drew ?_ | refine blk_alloc ?_ _)); exact BK155.out⟩, ⟨by repeat (first | (with_reducible first | exact HB.out | apply below_alloc | apply pw_below_drewN | apply below_drew1 | refine below_set ?_ GE148.out | refine below_set ?_ GE155.out) | exact HB.out)⟩⟩
                                  · rw [if_neg c38] at H
                                    have c38b0 : decide (t160 < 1) = false := decide_eq_false c38
                                    clear c38
                                    have H' := Aside0.mk H
                                    clear H
                                    have hnb41 := NB155_148.out
                                    have hnc41 := NB148_155.out
                                    have hcz42_0 : w23.cell? ⟨gb155, 0, none⟩ = some (.int .i64 ((rd_T30 l0 x18_1).f0)) := (blk_cell BK155.out 0).trans rfl
                                    have hcz42_1 : w23.cell? ⟨gb155, 1, none⟩ = some (.int .i64 ((rd_T30 l0 x18_1).f1)) := (blk_cell BK155.out 1).trans rfl
                                    have hcz42_2 : w23.cell? ⟨gb155, 2, none⟩ = some (.int .i64 ((rd_T30 l0 x18_1).f2)) := (blk_cell BK155.out 2).trans rfl
                                    have hfz42_0 := blk_frozen BK155.out 0
                                    have hfz42_1 := blk_frozen BK155.out 1
                                    have hfz42_2 := blk_frozen BK155.out 2
                                    go_wp2
                                    go_meet
                                    case rel => exact ⟨_, (false), (by first | rfl | (simp; done) | (simp [*]; done)), H', ⟨by have := HK1.out; first | omega | exact Nat.le_refl _⟩, ⟨by (with_reducible repeat (first | apply Kd.R_alloc | apply Kd.R_drewN | apply Kd.R_drew)); exact HO_4.out⟩, ⟨by (with_reducible repeat (first | apply Kd.R_alloc | apply Kd.R_drewN | apply Kd.R_drew)); exact HO_5.out⟩, ⟨by (with_reducible repeat (first | refine blk_drewN ?_ _ | refine blk_drew ?_ | refine blk_alloc ?_ _)); exact BK148.out⟩, ⟨by (with_reducible repeat (first | refine blk_drewN ?_ _ | refine blk_drew ?_ | refine blk_alloc ?_ _)); exact BK155.out⟩, ⟨by repeat (first | (with_reducible first | exact HB.out | apply below_alloc | apply pw_below_drewN | apply below_drew1 | refine below_set ?_ GE148.out | refine below_set ?_ GE155.out) | exact HB.out)⟩⟩
                                · rw [if_neg c37] at H
                                  have c37b0 : (((rd_T30 l0 x18_1).f2) == 0) = false := beq_eq_false_iff_ne.mpr c37
                                  have c37b1 : (((rd_T30 l0 x18_1).f2) != 0) = true := bne_iff_ne.mpr c37
                                  have H' := Aside0.mk H
                                  clear H
                                  have hnb43 := NB155_148.out
                                  have hnc43 := NB148_155.out
                                  have hcz44_0 : w23.cell? ⟨gb155, 0, none⟩ = some (.int .i64 ((rd_T30 l0 x18_1).f0)) := (blk_cell BK155.out 0).trans rfl
                                  have hcz44_1 : w23.cell? ⟨gb155, 1, none⟩ = some (.int .i64 ((rd_T30 l0 x18_1).f1)) := (blk_cell BK155.out 1).trans rfl
                                  have hcz44_2 : w23.cell? ⟨gb155, 2, none⟩ = some (.int .i64 ((rd_T30 l0 x18_1).f2)) := (blk_cell BK155.out 2).trans rfl
                                  have hfz44_0 := blk_frozen BK155.out 0
                                  have hfz44_1 := blk_frozen BK155.out 1
                                  have hfz44_2 := blk_frozen BK155.out 2
                                  go_wp2
                                  go_meet
                                  case rel => exact ⟨_, (true), (by first | rfl | (simp; done) | (simp [*]; done)), H', ⟨by have := HK1.out; first | omega | exact Nat.le_refl _⟩, ⟨by (with_reducible repeat (first | apply Kd.R_alloc | apply Kd.R_drewN | apply Kd.R_drew)); exact HO_4.out⟩, ⟨by (with_reducible repeat (first | apply Kd.R_alloc | apply Kd.R_drewN | apply Kd.R_drew)); exact HO_5.out⟩, ⟨by (with_reducible repeat (first | refine blk_drewN ?_ _ | refine blk_drew ?_ | refine blk_alloc ?_ _)); exact BK148.out⟩, ⟨by (with_reducible repeat (first | refine blk_drewN ?_ _ | refine blk_drew ?_ | refine blk_alloc ?_ _)); exact BK155.out⟩, ⟨by repeat (first | (with_reducible first | exact HB.out | apply below_alloc | apply pw_below_drewN | apply below_drew1 | refine below_set ?_ GE148.out | refine below_set ?_ GE155.out) | exact HB.out)⟩⟩
                              · rw [if_neg c36] at H
                                have c36b0 : decide (t160 < 2) = false := decide_eq_false c36
                                clear c36
                                by_cases c45 : t160 < 1
                                · rw [if_pos c45] at H
                                  have c45b0 : decide (t160 < 1) = true := decide_eq_true c45
                                  clear c45
                                  have H' := Aside0.mk H
                                  clear H
                                  have hnb46 := NB155_148.out
                                  have hnc46 := NB148_155.out
                                  have hcz47_0 : w23.cell? ⟨gb155, 0, none⟩ = some (.int .i64 ((rd_T30 l0 x18_1).f0)) := (blk_cell BK155.out 0).trans rfl
                                  have hcz47_1 : w23.cell? ⟨gb155, 1, none⟩ = some (.int .i64 ((rd_T30 l0 x18_1).f1)) := (blk_cell BK155.out 1).trans rfl
                                  have hcz47_2 : w23.cell? ⟨gb155, 2, none⟩ = some (.int .i64 ((rd_T30 l0 x18_1).f2)) := (blk_cell BK155.out 2).trans rfl
                                  have hfz47_0 := blk_frozen BK155.out 0
                                  have hfz47_1 := blk_frozen BK155.out 1
                                  have hfz47_2 := blk_frozen BK155.out 2
                                  go_wp2
                                  go_meet
                                  case rel => exact ⟨_, ((((rd_T30 l0 x18_1).f1) != 0)), (by first | rfl | (simp; done) | (simp [*]; done)), H', ⟨by have := HK1.out; first | omega | exact Nat.le_refl _⟩, ⟨by (with_reducible repeat (first | apply Kd.R_alloc | apply Kd.R_drewN | apply Kd.R_drew)); exact HO_4.out⟩, ⟨by (with_reducible repeat (first | apply Kd.R_alloc | apply Kd.R_drewN | apply Kd.R_drew)); exact HO_5.out⟩, ⟨by (with_reducible repeat (first | refine blk_drewN ?_ _ | refine blk_drew ?_ | refine blk_alloc ?_ _)); exact BK148.out⟩, ⟨by (with_reducible repeat (first | refine blk_drewN ?_ _ | refine blk_drew ?_ | refine blk_alloc ?_ _)); exact BK155.out⟩, ⟨by repeat (first | (with_reducible first | exact HB.out | apply below_alloc | apply pw_below_drewN | apply below_drew1 | refine below_set ?_ GE148.out | refine below_set ?_ GE155.out) | exact HB.out)⟩⟩
                                · rw [if_neg c45] at H
                                  have c45b0 : decide (t160 < 1) = false := decide_eq_false c45
                                  clear c45
                                  have H' := Aside0.mk H
                                  clear H
                                  have hnb48 := NB155_148.out
                                  have hnc48 := NB148_155.out
                                  have hcz49_0 : w23.cell? ⟨gb155, 0, none⟩ = some (.int .i64 ((rd_T30 l0 x18_1).f0)) := (blk_cell BK155.out 0).trans rfl
                                  have hcz49_1 : w23.cell? ⟨gb155, 1, none⟩ = some (.int .i64 ((rd_T30 l0 x18_1).f1)) := (blk_cell BK155.out 1).trans rfl
                                  have hcz49_2 : w23.cell? ⟨gb155, 2, none⟩ = some (.int .i64 ((rd_T30 l0 x18_1).f2)) := (blk_cell BK155.out 2).trans rfl
                                  have hfz49_0 := blk_frozen BK155.out 0
                                  have hfz49_1 := blk_frozen BK155.out 1
                                  have hfz49_2 := blk_frozen BK155.out 2
                                  go_wp2
                                  go_meet
                                  case rel => exact ⟨_, (false), (by first | rfl | (simp; done) | (simp [*]; done)), H', ⟨by have := HK1.out; first | omega | exact Nat.le_refl _⟩, ⟨by (with_reducible repeat (first | apply Kd.R_alloc | apply Kd.R_drewN | apply Kd.R_drew)); exact HO_4.out⟩, ⟨by (with_reducible repeat (first | apply Kd.R_alloc | apply Kd.R_drewN | apply Kd.R_drew)); exact HO_5.out⟩, ⟨by (with_reducible repeat (first | refine blk_drewN ?_ _ | refine blk_drew ?_ | refine blk_alloc ?_ _)); exact BK148.out⟩, ⟨by (with_reducible repeat (first | refine blk_drewN ?_ _ | refine blk_drew ?_ | refine blk_alloc ?_ _)); exact BK155.out⟩, ⟨by repeat (first | (with_reducible first | exact HB.out | apply below_alloc | apply pw_below_drewN | apply below_drew1 | refine below_set ?_ GE148.out | refine below_set ?_ GE155.out) | exact HB.out)⟩⟩
                    case rest =>
                      clear HC18
                      try clear c1
                      try clear p1
                      try clear q1
                      try clear hx1
                      try clear c2
                      try clear c2b0
                      try clear c2b1
                      try clear p2
                      try clear c3
                      try clear c4
                      try clear c7
                      try clear c9
                      try clear c10
                      try clear c10b0
                      try clear c11
                      try clear c11b0
                      try clear c12
                      try clear c12b0
                      try clear c14
                      try clear c15
                      try clear c15b0
                      try clear p15
                      try clear q15
                      try clear hx15
                      try clear c16
                      try clear c16b0
                      try clear c20
                      try clear c24
                      try clear c24b0
                      try clear c25
                      try clear c27
                      try clear c27b0
                      try clear c28
                      try clear c30
                      try clear c30b0
                      try clear c31
                      try clear c33
                      try clear c33b0
                      try clear c34
                      try clear c36
                      try clear c36b0
                      try clear c37
                      try clear c37b0
                      try clear c37b1
                      try clear c38
                      try clear c38b0
                      try clear c39
                      try clear c41
                      try clear c43
                      try clear c45
                      try clear c45b0
                      try clear c46
                      try clear c48
                      try clear hcz21_0
                      try clear hcz21_1
                      try clear hcz21_2
                      try clear hcz26_0
                      try clear hcz26_1
                      try clear hcz26_2
                      try clear hcz29_0
                      try clear hcz29_1
                      try clear hcz29_2
                      try clear hcz32_0
                      try clear hcz32_1
                      try clear hcz32_2
                      try clear hcz35_0
                      try clear hcz35_1
                      try clear hcz35_2
                      try clear hcz40_0
                      try clear hcz40_1
                      try clear hcz40_2
                      try clear hcz42_0
                      try clear hcz42_1
                      try clear hcz42_2
                      try clear hcz44_0
                      try clear hcz44_1
                      try clear hcz44_2
                      try clear hcz47_0
                      try clear hcz47_1
                      try clear hcz47_2
                      try clear hcz49_0
                      try clear hcz49_1
                      try clear hcz49_2
                      try clear hcz6_0
                      try clear hcz6_1
                      try clear hfz21_0
                      try clear hfz21_1
                      try clear hfz21_2
                      try clear hfz26_0
                      try clear hfz26_1
                      try clear hfz26_2
                      try clear hfz29_0
                      try clear hfz29_1
                      try clear hfz29_2
                      try clear hfz32_0
                      try clear hfz32_1
                      try clear hfz32_2
                      try clear hfz35_0
                      try clear hfz35_1
                      try clear hfz35_2
                      try clear hfz40_0
                      try clear hfz40_1
                      try clear hfz40_2
                      try clear hfz42_0
                      try clear hfz42_1
                      try clear hfz42_2
                      try clear hfz44_0
                      try clear hfz44_1
                      try clear hfz44_2
                      try clear hfz47_0
                      try clear hfz47_1
                      try clear hfz47_2
                      try clear hfz49_0
                      try clear hfz49_1
                      try clear hfz49_2
                      try clear hfz6_0
                      try clear hfz6_1
                      try clear hx154_0
                      try clear hx154_1
                      try clear hx154_2
                      try clear hx159_0
                      try clear hx159_1
                      try clear hx159_2
                      try clear p154
                      try clear p159
                      try clear p2
                      try clear q154
                      try clear q159
                      obtain ⟨kq, x72_17, rfl, HA, HJ17, HO_4, HO_5, BK148, BK155, HB⟩ := hcut
                      cases kq with
                      | zero => exact absurd HA.out (by simp [opcode_Encode.j1])
                      | succ kj17 =>
                        have H := HA.out
                        clear HA
                        simp only [opcode_Encode.j1] at H
                        by_cases c50 : x72_17 = true
                        · subst c50
                          have H1 : ((opcode_fault.f 4 x18_1).bind fun bt161 => (some (([] : List Int), bt161.1, bt161.2))) = some (r1, r2, r3) := by rw [if_pos rfl] at H; exact H
                          clear H
                          have H := H1
                          clear H1
                          replace H := Option.bind_eq_some_iff.mp H
                          obtain ⟨⟨t161, t162⟩, A510, H⟩ := H
                          replace H : (some (([] : List Int), t161, t162)) = some (r1, r2, r3) := H
                          have A51 := Aside0.mk A510
                          clear A510
                          simp only [Option.some.injEq, Prod.mk.injEq] at H
                          obtain ⟨rfl, rfl, rfl⟩ := H
                          go_wp2_with (first | ((with_reducible refine gate_callee (f := 11) rfl ?_); refine goesL_ (some 74) rfl rfl Tryd.func11 (by kernel_rfl) rfl #[.int .i64 4, .int .i64 x18_1] rfl (by (try simp only [List.map_toArray, List.map_cons, List.map_nil]); first | done | rfl | (simp only [List.length_drop, List.length_take]; rfl)) ?_; (with_reducible refine (opcode_fault.calls 4 x18_1 t161 t162 _ A51.out).mono ?_); rintro e w52 ⟨rfl, hb⟩; refine ⟨_, rfl, ?_⟩; have n0_ := Aside0.mk (Kd.R_below (by (with_reducible repeat (first | apply Kd.R_alloc | apply Kd.R_drewN | apply Kd.R_drew)); exact HO_4.out) hb); have n1_ := Aside0.mk (Kd.R_below (by (with_reducible repeat (first | apply Kd.R_alloc | apply Kd.R_drewN | apply Kd.R_drew)); exact HO_5.out) hb); have n2_ := Aside0.mk (blk_below (g := gb148) (o := .cells #[.int .i64 x149000_1, .int .i64 x149001_1] 25 (0, 0)) (by (with_reducible repeat (first | refine blk_drewN ?_ _ | refine blk_drew ?_ | refine blk_alloc ?_ _)); exact BK148.out) hb); have n3_ := Aside0.mk (blk_below (g := gb155) (o := .cells #[.int .i64 ((rd_T30 l0 x18_1).f0), .int .i64 ((rd_T30 l0 x18_1).f1), .int .i64 ((rd_T30 l0 x18_1).f2)] 30 (0, 0)) (by (with_reducible repeat (first | refine blk_drewN ?_ _ | refine blk_drew ?_ | refine blk_alloc ?_ _)); exact BK155.out) hb); have n4_ := Aside0.mk (below_step (by repeat (first | (with_reducible first | exact HB.out | apply below_alloc | apply pw_below_drewN | apply below_drew1 | refine below_set ?_ GE148.out | refine below_set ?_ GE155.out) | exact HB.out)) hb); clear HO_4; clear HO_5; clear BK148; clear BK155; clear HB; have HO_4 := n0_; have HO_5 := n1_; have BK148 := n2_; have BK155 := n3_; have HB := n4_; clear n0_ n1_ n2_ n3_ n4_; (try clear hb); (try clear hb2); (try clear hk); (try clear hi); have hnb53 := NB148_155.out; have hnc53 := NB155_148.out; have hcz54_0 : w52.cell? ⟨gb148, 0, none⟩ = some (.int .i64 x149000_1) := (blk_cell BK148.out 0).trans rfl; have hcz54_1 : w52.cell? ⟨gb148, 1, none⟩ = some (.int .i64 x149001_1) := (blk_cell BK148.out 1).trans rfl; have hfz54_0 := blk_frozen BK148.out 0; have hfz54_1 := blk_frozen BK148.out 1))
                          refine bodyPost_ret (results_tc rfl _ _ gb148 25 #[.int .i64 t161, .int .i64 t162] (0, 0) _ rfl (by (with_reducible repeat (first | refine blk_drewN ?_ _ | refine blk_drew ?_ | refine blk_alloc ?_ _)); refine blk_put (cs := #[.int .i64 t161, .int .i64 x149001_1]) ?_ 1 _ rfl; (with_reducible repeat (first | refine blk_drewN ?_ _ | refine blk_drew ?_ | refine blk_alloc ?_ _)); refine blk_put (cs := #[.int .i64 x149000_1, .int .i64 x149001_1]) ?_ 0 _ rfl; (with_reducible repeat (first | refine blk_drewN ?_ _ | refine blk_drew ?_ | refine blk_alloc ?_ _)); exact BK148.out) Tryd.underlying25 rfl (by kernel_rfl)) rfl ?_
                          exact ⟨_, by first | rfl | (simp [errW_none, errW_some] <;> rfl) | (simp [*, errW_none, errW_some] <;> rfl), by first | exact Kd.R_nil _ _ _ _ _ | exact Kd.N_nil _ _ _ _ _ | exact Kd.V_nil _ _ _ _ _ | exact Kd.Q_nil _ _ _ _ _ | exact Kd.S_nil _ _ _ _ _, by repeat (first | (with_reducible first | exact HB.out | apply below_alloc | apply pw_below_drewN | apply below_drew1 | refine below_set ?_ GE148.out | refine below_set ?_ GE155.out) | exact HB.out)⟩
                        · replace c50 := Bool.eq_false_iff.mpr c50
                          subst c50
                          have H1 : (if x4_1.length < 140737488355328 then ((some (([((rd_T30 l0 x18_1).f1), ((rd_T30 l0 x18_1).f2)] : List Int) : List Int)).bind fun y166 => (if 0 ≤ t160 then (if t160 ≤ (y166.length : Int) then ((some (y166.take (t160 : Int).toNat : List Int)).bind fun y169 => (opcode_Encode.l1 kj17 (x4_1 ++ [(((rd_T30 l0 x18_1).f0)) % 256]) t151 l0 (l0.length : Int) x18_1 y169 (y169.length : Int) 0)) else (none)) else (none))) else (none)) = some (r1, r2, r3) := by rw [if_neg (show ¬ (false = true) by decide)] at H; exact H
                          clear H
                          have H := H1
                          clear H1
                          by_cases c55 : x4_1.length < 140737488355328
                          · rw [if_pos c55] at H
                            have LMc55 := Aside0.mk c55
                            clear c55
                            obtain ⟨y163, hy163⟩ : ∃ y_ : List Int, y_ = (x4_1 ++ [(((rd_T30 l0 x18_1).f0)) % 256]) := ⟨_, rfl⟩
                            replace H : ((some (([((rd_T30 l0 x18_1).f1), ((rd_T30 l0 x18_1).f2)] : List Int) : List Int)).bind fun y166 => (if 0 ≤ t160 then (if t160 ≤ (y166.length : Int) then ((some (y166.take (t160 : Int).toNat : List Int)).bind fun y169 => (opcode_Encode.l1 kj17 y163 t151 l0 (l0.length : Int) x18_1 y169 (y169.length : Int) 0)) else (none)) else (none))) = some (r1, r2, r3) := by first | (rw [hy163]; with_reducible exact H) | (have H2_ := (Option.bind_some _ _).symm.trans H; rw [hy163]; with_reducible exact H2_) | (have H2_ := (Option.bind_some _ _).symm.trans H; with_reducible exact H2_) | with_reducible exact H | (rw [hy163]; exact H) | exact H
                            have Ny163 := Aside0.mk hy163
                            clear hy163
                            obtain ⟨y166, hy166⟩ : ∃ y_ : List Int, y_ = (([((rd_T30 l0 x18_1).f1), ((rd_T30 l0 x18_1).f2)] : List Int)) := ⟨_, rfl⟩
                            replace H : (if 0 ≤ t160 then (if t160 ≤ (y166.length : Int) then ((some (y166.take (t160 : Int).toNat : List Int)).bind fun y169 => (opcode_Encode.l1 kj17 y163 t151 l0 (l0.length : Int) x18_1 y169 (y169.length : Int) 0)) else (none)) else (none)) = some (r1, r2, r3) := by first | (rw [hy166]; with_reducible exact H) | (have H2_ := (Option.bind_some _ _).symm.trans H; rw [hy166]; with_reducible exact H2_) | (have H2_ := (Option.bind_some _ _).symm.trans H; with_reducible exact H2_) | with_reducible exact H | (rw [hy166]; exact H) | exact H
                            have Ny166 := Aside0.mk hy166
                            clear hy166
                            by_cases c56 : 0 ≤ t160
                            · rw [if_pos c56] at H
                              have c56b0 := eq_true c56
                              have c56b1 : decide (0 ≤ t160) = true := decide_eq_true c56
                              clear c56
                              by_cases c57 : t160 ≤ (y166.length : Int)
                              · rw [if_pos c57] at H
                                have c57b0 := eq_true c57
                                have c57b1 : decide (t160 ≤ (y166.length : Int)) = true := decide_eq_true c57
                                clear c57
                                obtain ⟨y169, hy169⟩ : ∃ y_ : List Int, y_ = (y166.take (t160 : Int).toNat) := ⟨_, rfl⟩
                                replace H : (opcode_Encode.l1 kj17 y163 t151 l0 (l0.length : Int) x18_1 y169 (y169.length : Int) 0) = some (r1, r2, r3) := by first | (rw [hy169]; with_reducible exact H) | (have H2_ := (Option.bind_some _ _).symm.trans H; rw [hy169]; with_reducible exact H2_) | (have H2_ := (Option.bind_some _ _).symm.trans H; with_reducible exact H2_) | with_reducible exact H | (rw [hy169]; exact H) | exact H
                                have Ny169 := Aside0.mk hy169
                                clear hy169
                                have H' := Aside0.mk H
                                clear H
                                have hnb58 := NB155_148.out
                                have hnc58 := NB148_155.out
                                have hcz59_0 : wc.cell? ⟨gb155, 0, none⟩ = some (.int .i64 ((rd_T30 l0 x18_1).f0)) := (blk_cell BK155.out 0).trans rfl
                                have hcz59_1 : wc.cell? ⟨gb155, 1, none⟩ = some (.int .i64 ((rd_T30 l0 x18_1).f1)) := (blk_cell BK155.out 1).trans rfl
                                have hcz59_2 : wc.cell? ⟨gb155, 2, none⟩ = some (.int .i64 ((rd_T30 l0 x18_1).f2)) := (blk_cell BK155.out 2).trans rfl
                                have hfz59_0 := blk_frozen BK155.out 0
                                have hfz59_1 := blk_frozen BK155.out 1
                                have hfz59_2 := blk_frozen BK155.out 2
                                go_wp2_with (first | ((with_reducible refine gate_builtin (b := .append) (xs := #[.tmp 75, .tmp 79]) rfl ?_); at_builtin; refine Kd.R_append (Kd.int .u8) (w0 := w) w.heap.size rfl (.tmp 75) (.tmp 79) 22 5 (.int .u8 0) 1 rfl Tryd.underlying22 info5 rfl (by decide) (by omega) u4 x4_1 ((((rd_T30 l0 x18_1).f0)) % 256) [.int .u8 ((((rd_T30 l0 x18_1).f0)) % 256)] (fun _ => True) (fun _ => False) rfl rfl ?aP (fun _ hk => hk.elim) ?aF ?aO ?aB ?aS ?aL ?_; (case aP => exact rfl); (case aB => exact (by repeat (first | (with_reducible first | exact HB.out | apply below_alloc | apply pw_below_drewN | apply below_drew1 | refine below_set ?_ GE148.out | refine below_set ?_ GE155.out) | exact HB.out))); (case aF => exact (fun _ _ => trivial)); (case aO => exact (by (with_reducible repeat (first | apply Kd.R_alloc | apply Kd.R_drewN | apply Kd.R_drew)); exact HO_4.out)); (case aS => exact (below_size (by repeat (first | (with_reducible first | exact HB.out | apply below_alloc | apply pw_below_drewN | apply below_drew1 | refine below_set ?_ GE148.out | refine below_set ?_ GE155.out) | exact HB.out)))); (case aL => have := LMc55.out; omega); intro v164 w60 ho hb hg hat; rw [← Ny163.out] at ho; have n0_ := Aside0.mk (Kd.R_over' (by (with_reducible repeat (first | apply Kd.R_alloc | apply Kd.R_drewN | apply Kd.R_drew)); exact HO_5.out) (Kd.R_typed (by (with_reducible repeat (first | apply Kd.R_alloc | apply Kd.R_drewN | apply Kd.R_drew)); exact HO_4.out)) (by decide) hg); have n1_ := Aside0.mk (blk_grown (g := gb148) (o := .cells #[.int .i64 x149000_1, .int .i64 x149001_1] 25 (0, 0)) (by (with_reducible repeat (first | refine blk_drewN ?_ _ | refine blk_drew ?_ | refine blk_alloc ?_ _)); exact BK148.out) hg (Kd.R_ne HO_4.out BK148.out (by decide))); have n2_ := Aside0.mk (blk_grown (g := gb155) (o := .cells #[.int .i64 ((rd_T30 l0 x18_1).f0), .int .i64 ((rd_T30 l0 x18_1).f1), .int .i64 ((rd_T30 l0 x18_1).f2)] 30 (0, 0)) (by (with_reducible repeat (first | refine blk_drewN ?_ _ | refine blk_drew ?_ | refine blk_alloc ?_ _)); exact BK155.out) hg (Kd.R_ne HO_4.out BK155.out (by decide))); have n3_ := Aside0.mk (hb); have n4_ := Aside0.mk (ho); clear HO_5; clear BK148; clear BK155; clear HB; clear HO_4; have HO_5 := n0_; have BK148 := n1_; have BK155 := n2_; have HB := n3_; have HO165 := n4_; clear n0_ n1_ n2_ n3_ n4_; clear ho hb hg hat; have hcz61_0 : w60.cell? ⟨gb155, 0, none⟩ = some (.int .i64 ((rd_T30 l0 x18_1).f0)) := (blk_cell BK155.out 0).trans rfl; have hcz61_1 : w60.cell? ⟨gb155, 1, none⟩ = some (.int .i64 ((rd_T30 l0 x18_1).f1)) := (blk_cell BK155.out 1).trans rfl; have hcz61_2 : w60.cell? ⟨gb155, 2, none⟩ = some (.int .i64 ((rd_T30 l0 x18_1).f2)) := (blk_cell BK155.out 2).trans rfl; have hfz61_0 := blk_frozen BK155.out 0; have hfz61_1 := blk_frozen BK155.out 1; have hfz61_2 := blk_frozen BK155.out 2) | ((with_reducible refine gate_dst (N := 85) rfl ?_); refine Kd.R_lit (Kd.int .i64) _ 3 ?hg (N := 85) ?hd (xs := ([((rd_T30 l0 x18_1).f1), ((rd_T30 l0 x18_1).f2)] : List Int)) (inner := [.int .i64 ((rd_T30 l0 x18_1).f1), .int .i64 ((rd_T30 l0 x18_1).f2)]) (ok := fun _ => True) (okp := fun _ => True) ?hr ?hp (fun _ hk => hk) trivial (Below.refl _ _) (Nat.le_refl _) (by simp) ?_; (case hd => rfl); (case hg => rfl); (case hr => first | (go_simp; done) | (go_simp; rfl)); (case hp => exact (Reps.one (show Kd.M (Kd.int .i64) _ _ _ ((rd_T30 l0 x18_1).f1) [.int .i64 ((rd_T30 l0 x18_1).f1)] from rfl) (Reps.one (show Kd.M (Kd.int .i64) _ _ _ ((rd_T30 l0 x18_1).f2) [.int .i64 ((rd_T30 l0 x18_1).f2)] from rfl) (Reps.none _ _)))); intro v167 w62 ho63 hb hg_ hnew_; clear hg_ hnew_; (first | rw [← Ny166.out] at ho63 | (simp only [Int.reduceToNat] at ho63; rw [← Ny166.out] at ho63)); have n0_ := Aside0.mk (Kd.R_below (by (with_reducible repeat (first | apply Kd.R_alloc | apply Kd.R_drewN | apply Kd.R_drew)); exact HO_5.out) hb); have n1_ := Aside0.mk (Kd.R_below (by (with_reducible repeat (first | apply Kd.R_alloc | apply Kd.R_drewN | apply Kd.R_drew)); exact HO165.out) hb); have n2_ := Aside0.mk (Kd.R_lower ho63 (below_size (by repeat (first | (with_reducible first | exact HB.out | apply below_alloc | apply pw_below_drewN | apply below_drew1 | refine below_set ?_ GE148.out | refine below_set ?_ GE155.out) | exact HB.out)))); have n3_ := Aside0.mk (blk_below (g := gb148) (o := .cells #[.int .i64 x149000_1, .int .i64 x149001_1] 25 (0, 0)) (by (with_reducible repeat (first | refine blk_drewN ?_ _ | refine blk_drew ?_ | refine blk_alloc ?_ _)); exact BK148.out) hb); have n4_ := Aside0.mk (blk_below (g := gb155) (o := .cells #[.int .i64 ((rd_T30 l0 x18_1).f0), .int .i64 ((rd_T30 l0 x18_1).f1), .int .i64 ((rd_T30 l0 x18_1).f2)] 30 (0, 0)) (by (with_reducible repeat (first | refine blk_drewN ?_ _ | refine blk_drew ?_ | refine blk_alloc ?_ _)); exact BK155.out) hb); have n5_ := Aside0.mk (below_step (by repeat (first | (with_reducible first | exact HB.out | apply below_alloc | apply pw_below_drewN | apply below_drew1 | refine below_set ?_ GE148.out | refine below_set ?_ GE155.out) | exact HB.out)) hb); clear HO_5; clear HO165; clear BK148; clear BK155; clear HB; have HO_5 := n0_; have HO165 := n1_; have HO168 := n2_; have BK148 := n3_; have BK155 := n4_; have HB := n5_; clear n0_ n1_ n2_ n3_ n4_ n5_; clear hb ho63; obtain ⟨Ao65, co65, eo65⟩ := Kd.R_slice HO168.out; subst eo65; have q64 : (t160 : Int) ≤ ((y166.length : Int) : Int) := of_decide_eq_true (by first | (with_reducible assumption) | assumption); obtain ⟨i064, hi064, _, hsz64, _⟩ := info_parts info3; have hroom64 : y166.length ≤ co65 := (Kd.R_reads' HO168.out).2.1; have hC64 : Kd.C (Kd.int .i64) _ Ao65 y166.length y166 := (Kd.R_reads' HO168.out).2.2; have hcut64 := cut_to (P := Tryd.prog) 50 3 .i64 Tryd.underlying50 hi064 Ao65 y166.length co65 t160 (of_decide_eq_true (by first | (with_reducible assumption) | assumption)) q64 hroom64; have hr64 := Kd.C_take (m := (t160 : Int).toNat) hC64 (by omega); have hy64 : y169.length = (t160 : Int).toNat := (by rw [Ny169.out, List.length_take]; omega); rw [← Ny169.out] at hr64; rw [← hy64] at hcut64; have HR172 := Aside0.mk hr64; have HC172 := Aside0.mk (show y169.length ≤ co65 from by omega); clear hr64 hC64 hroom64 hi064 hsz64; have KY64 := Aside0.mk hy64; clear hy64; have KL64 := Aside0.mk (show (t160 : Int).toNat ≤ y166.length from by omega); replace q64 := eq_true q64))
                                go_loopg [4, 89] kj17 (fun kq v4 v89 w' => ∃ (x4_3 : List Int) (x89_3 : Int), v89 = .int .i64 x89_3 ∧ Aside0 (opcode_Encode.l1 kq x4_3 t151 l0 (l0.length : Int) x18_1 y169 (y169.length : Int) x89_3 = some (r1, r2, r3)) ∧ Aside0 (kq ≤ kj17) ∧ Aside0 (Kd.R (Kd.int .u8) 5 w' w.heap.size (fun _ => True) v4 x4_3) ∧ Aside0 (Kd.R k42 42 w' w.heap.size (fun _ => True) (.slice (some ad159) t151.length co22) t151) ∧ Aside0 (Kd.R (Kd.int .i64) 3 w' w.heap.size (fun _ => True) (.slice Ao65 y166.length co65) y166) ∧ Aside0 (w'.heap[gb148]? = some (.cells #[.int .i64 x149000_1, .int .i64 x149001_1] 25 (0, 0))) ∧ Aside0 (w'.heap[gb155]? = some (.cells #[.int .i64 ((rd_T30 l0 x18_1).f0), .int .i64 ((rd_T30 l0 x18_1).f1), .int .i64 ((rd_T30 l0 x18_1).f2)] 30 (0, 0))) ∧ Aside0 (Below w.heap.size w w'))
                                case atStart => exact ⟨(y163), (0), (by first | rfl | (simp; done) | (simp [*]; done)), H', ⟨Nat.le_refl _⟩, ⟨by (with_reducible repeat (first | apply Kd.R_alloc | apply Kd.R_drewN | apply Kd.R_drew)); exact HO165.out⟩, ⟨by (with_reducible repeat (first | apply Kd.R_alloc | apply Kd.R_drewN | apply Kd.R_drew)); exact HO_5.out⟩, ⟨by (with_reducible repeat (first | apply Kd.R_alloc | apply Kd.R_drewN | apply Kd.R_drew)); exact HO168.out⟩, ⟨by (with_reducible repeat (first | refine blk_drewN ?_ _ | refine blk_drew ?_ | refine blk_alloc ?_ _)); exact BK148.out⟩, ⟨by (with_reducible repeat (first | refine blk_drewN ?_ _ | refine blk_drew ?_ | refine blk_alloc ?_ _)); exact BK155.out⟩, ⟨by repeat (first | (with_reducible first | exact HB.out | apply below_alloc | apply pw_below_drewN | apply below_drew1 | refine below_set ?_ GE148.out | refine below_set ?_ GE155.out) | exact HB.out)⟩⟩
                                case round =>
                                  clear H'
                                  try clear c1
                                  try clear p1
                                  try clear q1
                                  try clear hx1
                                  try clear c2
                                  try clear c2b0
                                  try clear c2b1
                                  try clear p2
                                  try clear c3
                                  try clear c4
                                  try clear c5
                                  try clear q6
                                  try clear c7
                                  try clear c9
                                  try clear c10
                                  try clear c10b0
                                  try clear c11
                                  try clear c11b0
                                  try clear c12
                                  try clear c12b0
                                  try clear c14
                                  try clear c15
                                  try clear c15b0
                                  try clear p15
                                  try clear q15
                                  try clear hx15
                                  try clear c16
                                  try clear c16b0
                                  try clear c20
                                  try clear c24
                                  try clear c24b0
                                  try clear c25
                                  try clear c27
                                  try clear c27b0
                                  try clear c28
                                  try clear c30
                                  try clear c30b0
                                  try clear c31
                                  try clear c33
                                  try clear c33b0
                                  try clear c34
                                  try clear c36
                                  try clear c36b0
                                  try clear c37
                                  try clear c37b0
                                  try clear c37b1
                                  try clear c38
                                  try clear c38b0
                                  try clear c39
                                  try clear c41
                                  try clear c43
                                  try clear c45
                                  try clear c45b0
                                  try clear c46
                                  try clear c48
                                  try clear c50
                                  try clear c53
                                  try clear c55
                                  try clear c56
                                  try clear c56b0
                                  try clear c56b1
                                  try clear c57
                                  try clear c57b0
                                  try clear c57b1
                                  try clear c58
                                  try clear q64
                                  try clear hcz21_0
                                  try clear hcz21_1
                                  try clear hcz21_2
                                  try clear hcz26_0
                                  try clear hcz26_1
                                  try clear hcz26_2
                                  try clear hcz29_0
                                  try clear hcz29_1
                                  try clear hcz29_2
                                  try clear hcz32_0
                                  try clear hcz32_1
                                  try clear hcz32_2
                                  try clear hcz35_0
                                  try clear hcz35_1
                                  try clear hcz35_2
                                  try clear hcz40_0
                                  try clear hcz40_1
                                  try clear hcz40_2
                                  try clear hcz42_0
                                  try clear hcz42_1
                                  try clear hcz42_2
                                  try clear hcz44_0
                                  try clear hcz44_1
                                  try clear hcz44_2
                                  try clear hcz47_0
                                  try clear hcz47_1
                                  try clear hcz47_2
                                  try clear hcz49_0
                                  try clear hcz49_1
                                  try clear hcz49_2
                                  try clear hcz54_0
                                  try clear hcz54_1
                                  try clear hcz59_0
                                  try clear hcz59_1
                                  try clear hcz59_2
                                  try clear hcz61_0
                                  try clear hcz61_1
                                  try clear hcz61_2
                                  try clear hcz6_0
                                  try clear hcz6_1
                                  try clear hfz21_0
                                  try clear hfz21_1
                                  try clear hfz21_2
                                  try clear hfz26_0
                                  try clear hfz26_1
                                  try clear hfz26_2
                                  try clear hfz29_0
                                  try clear hfz29_1
                                  try clear hfz29_2
                                  try clear hfz32_0
                                  try clear hfz32_1
                                  try clear hfz32_2
                                  try clear hfz35_0
                                  try clear hfz35_1
                                  try clear hfz35_2
                                  try clear hfz40_0
                                  try clear hfz40_1
                                  try clear hfz40_2
                                  try clear hfz42_0
                                  try clear hfz42_1
                                  try clear hfz42_2
                                  try clear hfz44_0
                                  try clear hfz44_1
                                  try clear hfz44_2
                                  try clear hfz47_0
                                  try clear hfz47_1
                                  try clear hfz47_2
                                  try clear hfz49_0
                                  try clear hfz49_1
                                  try clear hfz49_2
                                  try clear hfz54_0
                                  try clear hfz54_1
                                  try clear hfz59_0
                                  try clear hfz59_1
                                  try clear hfz59_2
                                  try clear hfz61_0
                                  try clear hfz61_1
                                  try clear hfz61_2
                                  try clear hfz6_0
                                  try clear hfz6_1
                                  try clear hx154_0
                                  try clear hx154_1
                                  try clear hx154_2
                                  try clear hx159_0
                                  try clear hx159_1
                                  try clear hx159_2
                                  try clear p1
                                  try clear p15
                                  try clear p154
                                  try clear p159
                                  try clear p2
                                  try clear q1
                                  try clear q15
                                  try clear q154
                                  try clear q159
                                  try clear q64
                                  obtain ⟨x4_3, x89_3, rfl, HA, HK3, HO_4, HO_5, HO_8, BK148, BK155, HB⟩ := hrel
                                  cases gk with
                                  | zero => exact absurd HA.out (by simp [opcode_Encode.l1])
                                  | succ k3 =>
                                    have H := HA.out
                                    clear HA
                                    simp only [opcode_Encode.l1] at H
                                    by_cases c66 : x89_3 < (y169.length : Int)
                                    · rw [if_pos c66] at H
                                      have c66b0 : decide (x89_3 < (y169.length : Int)) = true := decide_eq_true c66
                                      clear c66
                                      by_cases c67 : 0 ≤ x89_3
                                      · rw [if_pos c67] at H
                                        have c67b0 : decide (0 ≤ x89_3) = true := decide_eq_true c67
                                        clear c67
                                        by_cases c68 : x89_3 < (y169.length : Int)
                                        · rw [if_pos c68] at H
                                          have c68b0 : decide (x89_3 < (y169.length : Int)) = true := decide_eq_true c68
                                          clear c68
                                          replace H := Option.bind_eq_some_iff.mp H
                                          obtain ⟨t174, A690, H⟩ := H
                                          replace H : (opcode_Encode.l1 k3 t174 t151 l0 (l0.length : Int) x18_1 y169 (y169.length : Int) (wrap64 (x89_3 + 1))) = some (r1, r2, r3) := H
                                          have A69 := Aside0.mk A690
                                          clear A690
                                          have H' := Aside0.mk H
                                          clear H
                                          have p173 : 0 ≤ (x89_3 : Int) := of_decide_eq_true (by first | (with_reducible assumption) | assumption)
                                          have q173 : x89_3 < (y169.length : Int) := of_decide_eq_true (by first | (with_reducible assumption) | assumption)
                                          have hr8 := Kd.C_take (m := (t160 : Int).toNat) (Kd.R_reads' HO_8.out).2.2 KL64.out
                                          rw [← Ny169.out] at hr8
                                          obtain ⟨ad173, e173, hx173_0⟩ := Kd.at_int hr8 x89_3 p173 q173
                                          clear hr8
                                          cases e173
                                          skip
                                          replace p173 := eq_true p173
                                          replace q173 := eq_true q173
                                          obtain ⟨Ao70, co70, eo70⟩ := Kd.R_slice HO_4.out
                                          subst eo70
                                          go_wp2_with (first | ((with_reducible refine gate_callee (f := 16) rfl ?_); refine goesL_ (some 95) rfl rfl Tryd.func16 (by kernel_rfl) rfl #[.slice Ao70 x4_3.length co70, .int .i64 (rd y169 x89_3)] rfl (by (try simp only [List.map_toArray, List.map_cons, List.map_nil]); first | done | rfl | (simp only [List.length_drop, List.length_take]; rfl)) ?_; (with_reducible refine (opcode_varint.calls k3 (fun k_ => some k_ = (.slice Ao70 x4_3.length co70 : Value).ownBlock) (.slice Ao70 x4_3.length co70) x4_3 (rd y169 x89_3) t174 w _ ?side1 ?side2 A69.out).mono ?_); (case side1 => repeat (first | (with_reducible first | exact HB.out | apply below_alloc | apply pw_below_drewN | apply below_drew1 | refine below_set ?_ GE148.out | refine below_set ?_ GE155.out) | exact HB.out)); (case side2 => exact Kd.R_tight rfl HO_4.out); rintro e w71 ⟨v175, rfl, ho0, hb, hkp⟩; refine ⟨_, rfl, ?_⟩; have n0_ := Aside0.mk (Kd.R_mono (ok' := fun k_ => True) (Kd.R_keptB ((Kd.R_apart' HO_5.out (Kd.R_typed HO_4.out) (by decide))) hkp (fun k_ hk_ hs_ => (hk_.2) hs_)) (fun k_ hk_ => trivial)); have n1_ := Aside0.mk (blk_kept (by (with_reducible repeat (first | refine blk_drewN ?_ _ | refine blk_drew ?_ | refine blk_alloc ?_ _)); exact BK148.out) hkp (fun hs_ => (fun e_ => (Kd.R_ne HO_4.out BK148.out (by decide)) e_) hs_)); have n2_ := Aside0.mk (blk_kept (by (with_reducible repeat (first | refine blk_drewN ?_ _ | refine blk_drew ?_ | refine blk_alloc ?_ _)); exact BK155.out) hkp (fun hs_ => (fun e_ => (Kd.R_ne HO_4.out BK155.out (by decide)) e_) hs_)); have n9_ := Aside0.mk (Kd.R_mono (ok' := fun k_ => True) (Kd.R_keptB ((Kd.R_apart' HO_8.out (Kd.R_typed HO_4.out) (by decide))) hkp (fun k_ hk_ hs_ => (hk_.2) hs_)) (fun k_ hk_ => trivial)); have n3_ := Aside0.mk (Kd.R_mono (ok' := fun k_ => True) ho0 (fun k_ hk_ => trivial)); have n4_ := Aside0.mk (hb); clear HO_5; clear HO_8; clear BK148; clear BK155; clear HB; clear HO_4; have HO_5 := n0_; have HO_8 := n9_; have BK148 := n1_; have BK155 := n2_; have HO176 := n3_; have HB := n4_; clear n9_ n0_ n1_ n2_ n3_ n4_; (try clear hb); (try clear hkp); (try clear ho0)))
                                          go_roundg k3
                                          case measure => have := HK1.out; have := HJ17.out; have := HK3.out; omega
                                          case rel => exact ⟨(t174), (wrap64 (x89_3 + 1)), (by first | rfl | (simp; done) | (simp [*]; done)), H', ⟨by have := HK1.out; have := HJ17.out; have := HK3.out; omega⟩, ⟨by (with_reducible repeat (first | apply Kd.R_alloc | apply Kd.R_drewN | apply Kd.R_drew)); exact HO176.out⟩, ⟨by (with_reducible repeat (first | apply Kd.R_alloc | apply Kd.R_drewN | apply Kd.R_drew)); exact HO_5.out⟩, ⟨by (with_reducible repeat (first | apply Kd.R_alloc | apply Kd.R_drewN | apply Kd.R_drew)); exact HO_8.out⟩, ⟨by (with_reducible repeat (first | refine blk_drewN ?_ _ | refine blk_drew ?_ | refine blk_alloc ?_ _)); exact BK148.out⟩, ⟨by (with_reducible repeat (first | refine blk_drewN ?_ _ | refine blk_drew ?_ | refine blk_alloc ?_ _)); exact BK155.out⟩, ⟨by repeat (first | (with_reducible first | exact HB.out | apply below_alloc | apply pw_below_drewN | apply below_drew1 | refine below_set ?_ GE148.out | refine below_set ?_ GE155.out) | exact HB.out)⟩⟩
                                        · rw [if_neg c68] at H
                                          exact absurd H (by simp)
                                      · rw [if_neg c67] at H
                                        exact absurd H (by simp)
                                    · rw [if_neg c66] at H
                                      have c66b0 : decide (x89_3 < (y169.length : Int)) = false := decide_eq_false c66
                                      clear c66
                                      have H' := Aside0.mk H
                                      clear H
                                      go_wp2
                                      go_roundg k3
                                      case measure => have := HK1.out; have := HJ17.out; have := HK3.out; omega
                                      case rel => exact ⟨(x4_3), (wrap64 (x18_1 + 1)), (x149000_1), (x149001_1), (by first | rfl | (simp; done) | (simp [*]; done)), H', ⟨by have := HK1.out; have := HJ17.out; have := HK3.out; omega⟩, ⟨by (with_reducible repeat (first | apply Kd.R_alloc | apply Kd.R_drewN | apply Kd.R_drew)); exact HO_4.out⟩, ⟨by (with_reducible repeat (first | apply Kd.R_alloc | apply Kd.R_drewN | apply Kd.R_drew)); exact HO_5.out⟩, ⟨by (with_reducible repeat (first | refine blk_drewN ?_ _ | refine blk_drew ?_ | refine blk_alloc ?_ _)); exact BK148.out⟩, ⟨by repeat (first | (with_reducible first | exact HB.out | apply below_alloc | apply pw_below_drewN | apply below_drew1 | refine below_set ?_ GE148.out | refine below_set ?_ GE155.out) | exact HB.out)⟩⟩
                              · rw [if_neg c57] at H
                                exact absurd H (by simp)
                            · rw [if_neg c56] at H
                              exact absurd H (by simp)
                          · rw [if_neg c55] at H
                            exact absurd H (by simp)
                  · rw [if_neg c16] at H
                    exact absurd H (by simp)
                · rw [if_neg c15] at H
                  exact absurd H (by simp)
              · replace c14 := Bool.eq_false_iff.mpr c14
                subst c14
                have H1 : ((opcode_fault.f 5 x18_1).bind fun bt157 => (some (([] : List Int), bt157.1, bt157.2))) = some (r1, r2, r3) := by rw [if_neg (show ¬ (false = true) by decide)] at H; exact H
                clear H
                have H := H1
                clear H1
                replace H := Option.bind_eq_some_iff.mp H
                obtain ⟨⟨t157, t158⟩, A720, H⟩ := H
                replace H : (some (([] : List Int), t157, t158)) = some (r1, r2, r3) := H
                have A72 := Aside0.mk A720
                clear A720
                simp only [Option.some.injEq, Prod.mk.injEq] at H
                obtain ⟨rfl, rfl, rfl⟩ := H
                have p154 : 0 ≤ (x18_1 : Int) := of_decide_eq_true (by first | (with_reducible assumption) | assumption)
                have q154 : x18_1 < (l0.length : Int) := of_decide_eq_true (by first | (with_reducible assumption) | assumption)
                obtain ⟨ad154, e154, hx154_0, hx154_1, hx154_2⟩ := at_T30 HR0.out x18_1 p154 q154
                cases e154
                replace hx154_0 := (HB.out.cell (World.block_lt_of_cell? w _ hx154_0)).trans hx154_0
                replace hx154_1 := (HB.out.cell (World.block_lt_of_cell? w _ hx154_1)).trans hx154_1
                replace hx154_2 := (HB.out.cell (World.block_lt_of_cell? w _ hx154_2)).trans hx154_2
                replace p154 := eq_true p154
                replace q154 := eq_true q154
                go_wp2_with (first | ((with_reducible refine gate_dst (N := 7) rfl ?_); refine box_event ?hg (N := 7) ?hd (cs := #[.int .i64 0, .int .i64 0, .int .i64 0]) (t := 30) ?hr ?_; (case hd => rfl); (case hg => rfl); (case hr => first | (go_simp; done) | (go_simp; rfl)); intro gb155 hg w73 hbox hb; have n0_ := Aside0.mk (Kd.R_below (by (with_reducible repeat (first | apply Kd.R_alloc | apply Kd.R_drewN | apply Kd.R_drew)); exact HO_4.out) hb); have n1_ := Aside0.mk (Kd.R_below (by (with_reducible repeat (first | apply Kd.R_alloc | apply Kd.R_drewN | apply Kd.R_drew)); exact HO_5.out) hb); have n2_ := Aside0.mk (blk_below (g := gb148) (o := .cells #[.int .i64 x149000_1, .int .i64 x149001_1] 25 (0, 0)) (by (with_reducible repeat (first | refine blk_drewN ?_ _ | refine blk_drew ?_ | refine blk_alloc ?_ _)); exact BK148.out) hb); have n3_ := Aside0.mk (below_step (by repeat (first | (with_reducible first | exact HB.out | apply below_alloc | apply pw_below_drewN | apply below_drew1 | refine below_set ?_ GE148.out) | exact HB.out)) hb); have n4_ := Aside0.mk (hbox); have n5_ := Aside0.mk ((by rw [hg]; exact (below_size (by repeat (first | (with_reducible first | exact HB.out | apply below_alloc | apply pw_below_drewN | apply below_drew1 | refine below_set ?_ GE148.out) | exact HB.out))) : w.heap.size ≤ gb155)); have n6_ := Aside0.mk ((by rw [hg]; exact (below_size (by repeat (first | (with_reducible first | exact HB.out | apply below_alloc | apply pw_below_drewN | apply below_drew1 | refine below_set ?_ GE148.out) | exact HB.out))) : w.heap.size ≤ gb155)); have n7_ := Aside0.mk ((by rw [hg]; exact Nat.ne_of_lt (blk_lt (g := gb148) (o := .cells #[.int .i64 x149000_1, .int .i64 x149001_1] 25 (0, 0)) (by (with_reducible repeat (first | refine blk_drewN ?_ _ | refine blk_drew ?_ | refine blk_alloc ?_ _)); exact BK148.out)) : gb148 ≠ gb155)); have n8_ := Aside0.mk ((by rw [hg]; exact Nat.ne_of_gt (blk_lt (g := gb148) (o := .cells #[.int .i64 x149000_1, .int .i64 x149001_1] 25 (0, 0)) (by (with_reducible repeat (first | refine blk_drewN ?_ _ | refine blk_drew ?_ | refine blk_alloc ?_ _)); exact BK148.out)) : gb155 ≠ gb148)); clear HO_4; clear HO_5; clear BK148; clear HB; have HO_4 := n0_; have HO_5 := n1_; have BK148 := n2_; have HB := n3_; have BK155 := n4_; have GW155 := n5_; have GE155 := n6_; have NB148_155 := n7_; have NB155_148 := n8_; clear n0_ n1_ n2_ n3_ n4_ n5_ n6_ n7_ n8_; clear hb hbox hg; have hnb74 := NB155_148.out; have hnc74 := NB148_155.out; have hcz75_0 : w73.cell? ⟨gb155, 0, none⟩ = some (.int .i64 0) := (blk_cell BK155.out 0).trans rfl; have hcz75_1 : w73.cell? ⟨gb155, 1, none⟩ = some (.int .i64 0) := (blk_cell BK155.out 1).trans rfl; have hcz75_2 : w73.cell? ⟨gb155, 2, none⟩ = some (.int .i64 0) := (blk_cell BK155.out 2).trans rfl; have hfz75_0 := blk_frozen BK155.out 0; have hfz75_1 := blk_frozen BK155.out 1; have hfz75_2 := blk_frozen BK155.out 2; obtain ⟨Ao76, co76, eo76⟩ := Kd.R_slice HO_5.out; subst eo76) | ((with_reducible refine gate_callee (f := 10) rfl ?_); refine goesL_ (some 27) rfl rfl Tryd.func10 (by kernel_rfl) rfl #[.int .i64 ((rd_T30 l0 x18_1).f0), .int .i64 (t151.length : Int)] rfl (by (try simp only [List.map_toArray, List.map_cons, List.map_nil]); first | done | rfl | (simp only [List.length_drop, List.length_take]; rfl)) ?_; (with_reducible refine (opcode_within.calls ((rd_T30 l0 x18_1).f0) (t151.length : Int) false _ A13.out).mono ?_); rintro e w' ⟨rfl, ⟨nd, rfl⟩⟩; refine ⟨_, rfl, ?_⟩) | ((with_reducible refine gate_callee (f := 11) rfl ?_); refine goesL_ (some 30) rfl rfl Tryd.func11 (by kernel_rfl) rfl #[.int .i64 5, .int .i64 x18_1] rfl (by (try simp only [List.map_toArray, List.map_cons, List.map_nil]); first | done | rfl | (simp only [List.length_drop, List.length_take]; rfl)) ?_; (with_reducible refine (opcode_fault.calls 5 x18_1 t157 t158 _ A72.out).mono ?_); rintro e w77 ⟨rfl, hb⟩; refine ⟨_, rfl, ?_⟩; have n0_ := Aside0.mk (Kd.R_below (by (with_reducible repeat (first | apply Kd.R_alloc | apply Kd.R_drewN | apply Kd.R_drew)); exact (Kd.R_mono (Kd.R_far (p := ⟨gb155, 2, none⟩) (Kd.R_far (p := ⟨gb155, 1, none⟩) (Kd.R_far (p := ⟨gb155, 0, none⟩) (Kd.R_types HO_4.out BK155.out (by decide)) (fun _ hk => hk.2) (.int .i64 ((rd_T30 l0 x18_1).f0))) (fun _ hk => hk.2) (.int .i64 ((rd_T30 l0 x18_1).f1))) (fun _ hk => hk.2) (.int .i64 ((rd_T30 l0 x18_1).f2))) (fun _ h_ => h_.1))) hb); have n1_ := Aside0.mk (Kd.R_below (by (with_reducible repeat (first | apply Kd.R_alloc | apply Kd.R_drewN | apply Kd.R_drew)); exact (Kd.R_mono (Kd.R_far (p := ⟨gb155, 2, none⟩) (Kd.R_far (p := ⟨gb155, 1, none⟩) (Kd.R_far (p := ⟨gb155, 0, none⟩) (Kd.R_types HO_5.out BK155.out (by decide)) (fun _ hk => hk.2) (.int .i64 ((rd_T30 l0 x18_1).f0))) (fun _ hk => hk.2) (.int .i64 ((rd_T30 l0 x18_1).f1))) (fun _ hk => hk.2) (.int .i64 ((rd_T30 l0 x18_1).f2))) (fun _ h_ => h_.1))) hb); have n2_ := Aside0.mk (blk_below (g := gb148) (o := .cells #[.int .i64 x149000_1, .int .i64 x149001_1] 25 (0, 0)) (by (with_reducible repeat (first | refine blk_drewN ?_ _ | refine blk_drew ?_ | refine blk_alloc ?_ _)); refine blk_far ?_ NB148_155.out _; (with_reducible repeat (first | refine blk_drewN ?_ _ | refine blk_drew ?_ | refine blk_alloc ?_ _)); refine blk_far ?_ NB148_155.out _; (with_reducible repeat (first | refine blk_drewN ?_ _ | refine blk_drew ?_ | refine blk_alloc ?_ _)); refine blk_far ?_ NB148_155.out _; (with_reducible repeat (first | refine blk_drewN ?_ _ | refine blk_drew ?_ | refine blk_alloc ?_ _)); exact BK148.out) hb); have n3_ := Aside0.mk (blk_below (g := gb155) (o := .cells #[.int .i64 ((rd_T30 l0 x18_1).f0), .int .i64 ((rd_T30 l0 x18_1).f1), .int .i64 ((rd_T30 l0 x18_1).f2)] 30 (0, 0)) (by (with_reducible repeat (first | refine blk_drewN ?_ _ | refine blk_drew ?_ | refine blk_alloc ?_ _)); refine blk_put (cs := #[.int .i64 ((rd_T30 l0 x18_1).f0), .int .i64 ((rd_T30 l0 x18_1).f1), .int .i64 0]) ?_ 2 _ rfl; (with_reducible repeat (first | refine blk_drewN ?_ _ | refine blk_drew ?_ | refine blk_alloc ?_ _)); refine blk_put (cs := #[.int .i64 ((rd_T30 l0 x18_1).f0), .int .i64 0, .int .i64 0]) ?_ 1 _ rfl; (with_reducible repeat (first | refine blk_drewN ?_ _ | refine blk_drew ?_ | refine blk_alloc ?_ _)); refine blk_put (cs := #[.int .i64 0, .int .i64 0, .int .i64 0]) ?_ 0 _ rfl; (with_reducible repeat (first | refine blk_drewN ?_ _ | refine blk_drew ?_ | refine blk_alloc ?_ _)); exact BK155.out) hb); have n4_ := Aside0.mk (below_step (by repeat (first | (with_reducible first | exact HB.out | apply below_alloc | apply pw_below_drewN | apply below_drew1 | refine below_set ?_ GE148.out | refine below_set ?_ GE155.out) | exact HB.out)) hb); clear HO_4; clear HO_5; clear BK148; clear BK155; clear HB; have HO_4 := n0_; have HO_5 := n1_; have BK148 := n2_; have BK155 := n3_; have HB := n4_; clear n0_ n1_ n2_ n3_ n4_; (try clear hb); (try clear hb2); (try clear hk); (try clear hi); have hcz78_0 : w77.cell? ⟨gb148, 0, none⟩ = some (.int .i64 x149000_1) := (blk_cell BK148.out 0).trans rfl; have hcz78_1 : w77.cell? ⟨gb148, 1, none⟩ = some (.int .i64 x149001_1) := (blk_cell BK148.out 1).trans rfl; have hfz78_0 := blk_frozen BK148.out 0; have hfz78_1 := blk_frozen BK148.out 1))
                refine bodyPost_ret (results_tc rfl _ _ gb148 25 #[.int .i64 t157, .int .i64 t158] (0, 0) _ rfl (by (with_reducible repeat (first | refine blk_drewN ?_ _ | refine blk_drew ?_ | refine blk_alloc ?_ _)); refine blk_put (cs := #[.int .i64 t157, .int .i64 x149001_1]) ?_ 1 _ rfl; (with_reducible repeat (first | refine blk_drewN ?_ _ | refine blk_drew ?_ | refine blk_alloc ?_ _)); refine blk_put (cs := #[.int .i64 x149000_1, .int .i64 x149001_1]) ?_ 0 _ rfl; (with_reducible repeat (first | refine blk_drewN ?_ _ | refine blk_drew ?_ | refine blk_alloc ?_ _)); exact BK148.out) Tryd.underlying25 rfl (by kernel_rfl)) rfl ?_
                exact ⟨_, by first | rfl | (simp [errW_none, errW_some] <;> rfl) | (simp [*, errW_none, errW_some] <;> rfl), by first | exact Kd.R_nil _ _ _ _ _ | exact Kd.N_nil _ _ _ _ _ | exact Kd.V_nil _ _ _ _ _ | exact Kd.Q_nil _ _ _ _ _ | exact Kd.S_nil _ _ _ _ _, by repeat (first | (with_reducible first | exact HB.out | apply below_alloc | apply pw_below_drewN | apply below_drew1 | refine below_set ?_ GE148.out | refine below_set ?_ GE155.out) | exact HB.out)⟩
            · rw [if_neg c12] at H
              exact absurd H (by simp)
          · rw [if_neg c11] at H
            exact absurd H (by simp)
        · rw [if_neg c10] at H
          have c10b0 : decide (x18_1 < (l0.length : Int)) = false := decide_eq_false c10
          clear c10
          simp only [Option.some.injEq, Prod.mk.injEq] at H
          obtain ⟨rfl, rfl, rfl⟩ := H
          have hcz79_0 : wr.cell? ⟨gb148, 0, none⟩ = some (.int .i64 x149000_1) := (blk_cell BK148.out 0).trans rfl
          have hcz79_1 : wr.cell? ⟨gb148, 1, none⟩ = some (.int .i64 x149001_1) := (blk_cell BK148.out 1).trans rfl
          have hfz79_0 := blk_frozen BK148.out 0
          have hfz79_1 := blk_frozen BK148.out 1
          go_wp2
          refine bodyPost_ret (results_tc rfl _ _ gb148 25 #[.int .i64 0, .int .i64 0] (0, 0) _ rfl (by (with_reducible repeat (first | refine blk_drewN ?_ _ | refine blk_drew ?_ | refine blk_alloc ?_ _)); refine blk_put (cs := #[.int .i64 0, .int .i64 x149001_1]) ?_ 1 _ rfl; (with_reducible repeat (first | refine blk_drewN ?_ _ | refine blk_drew ?_ | refine blk_alloc ?_ _)); refine blk_put (cs := #[.int .i64 x149000_1, .int .i64 x149001_1]) ?_ 0 _ rfl; (with_reducible repeat (first | refine blk_drewN ?_ _ | refine blk_drew ?_ | refine blk_alloc ?_ _)); exact BK148.out) Tryd.underlying25 rfl (by kernel_rfl)) rfl ?_
          exact ⟨_, by first | rfl | (simp [errW_none, errW_some] <;> rfl) | (simp [*, errW_none, errW_some] <;> rfl), by (with_reducible repeat (first | apply Kd.R_alloc | apply Kd.R_drewN | apply Kd.R_drew)); exact Kd.R_mono (Kd.R_far (p := ⟨gb148, 1, none⟩) (Kd.R_far (p := ⟨gb148, 0, none⟩) (Kd.R_types HO_4.out BK148.out (by decide)) (fun _ hk => hk.2) (.int .i64 0)) (fun _ hk => hk.2) (.int .i64 0)) (fun _ hk => trivial), by repeat (first | (with_reducible first | exact HB.out | apply below_alloc | apply pw_below_drewN | apply below_drew1 | refine below_set ?_ GE148.out) | exact HB.out)⟩

end Go.Proofs.YtepcdjaghoclfaaDoor.My
