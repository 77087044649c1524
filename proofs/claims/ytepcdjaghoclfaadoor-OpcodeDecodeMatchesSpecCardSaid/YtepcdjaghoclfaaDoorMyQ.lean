/- What the reference function Decoded computes, as a plain function, and the words for the memory of its call. Conditions: none. -/
import Derived.Test.YtepcdjaghoclfaaDoorMyI
import Derived.Test.YtepcdjaghoclfaaDoorMyP
import Derived.Test.YtepcdjaghoclfaaDoorMyD
import Derived.Lib.OthersKept
namespace Go.Proofs.YtepcdjaghoclfaaDoor.My
open Go.RowKit Go.Proofs.YtepcdjaghoclfaaDoorW.PrintWords Go.Proofs.YtepcdjaghoclfaaDoorW.PrintLast Go.Proofs.YtepcdjaghoclfaaDoorW.PrintMore Go.Proofs.YtepcdjaghoclfaaDoor.POpcodeDecodeMatchesSpec
set_option linter.unusedVariables false
set_option linter.unusedSimpArgs false

/-! ### What is computed -/
def cnt (op : Int) : Nat := (opers.getD op.toNat ByteArray.empty).size
/-- m operands more, from the operand with the number k on: the code of the fault, the operands, the place behind. -/
def given (l : List Int) : Nat → Nat → Int → Int → Int → Int × Int × Int × Int
  | 0, _, i, a, b => (0, a, b, i)
  | m + 1, k, i, a, b =>
    if (sept l 4 i 0 1 0).2.1 = 0 then
      (if 16000 < (sept l 4 i 0 1 0).1 then (16, a, b, i) else if k = 0 then given l m (k + 1) (sept l 4 i 0 1 0).2.2 (sept l 4 i 0 1 0).1 b else given l m (k + 1) (sept l 4 i 0 1 0).2.2 a (sept l 4 i 0 1 0).1)
    else ((sept l 4 i 0 1 0).2.1, a, b, i)
def decL (l : List Int) : Nat → Int → List S30 → Option (List S30 × Int × Int)
  | 0, _, _ => none
  | f + 1, i, out => if i < (l.length : Int) then
      (if 80 ≤ rd l i then some ([], 5, i) else if out.length = 60000 then some ([], 2, -1) else
        if (given l (cnt (rd l i)) 0 (i + 1) 0 0).1 = 0 then decL l f (given l (cnt (rd l i)) 0 (i + 1) 0 0).2.2.2 (out ++ [⟨rd l i, (given l (cnt (rd l i)) 0 (i + 1) 0 0).2.1, (given l (cnt (rd l i)) 0 (i + 1) 0 0).2.2.1⟩])
        else some ([], (given l (cnt (rd l i)) 0 (i + 1) 0 0).1, i))
    else some (out, 0, 0)

/-! ### The state of the call -/
structure DSt (w : World) (gb : Nat) (vops : Value) (wr : World) (g : Nat) (i : Int) (v6 : Value) (out : List S30) : Prop where
  at_ : wr.heap[g]? = some (.cells #[.int .i64 i] 3 (0, 0))
  hg : w.heap.size ≤ g
  res : wr.heap[gb]? = some (.cells #[.int .i64 0, .int .i64 0] 25 (0, 0))
  hgb : w.heap.size ≤ gb
  out_ : Kd.R k30 30 wr w.heap.size (fun _ => True) v6 out
  ops : Kd.R Kd.string 9 wr w.heap.size (fun _ => True) vops opers
  below : Below w.heap.size w wr

/-- What is written is a block of another make. -/
theorem R_spared {α : Type} {d : Kd α} {e base : Nat} {ok : Nat → Prop} {v : Value} {xs : List α} {wr w1 : World} {k : Nat} {o : Obj} (h : d.R e wr base ok v xs) (hE : d.E = []) (hk : wr.heap[k]? = some o) (ho : ∀ cs fr, o ≠ .cells cs e fr) (hm : ∀ j, j < wr.heap.size → j ≠ k → w1.heap[j]? = wr.heap[j]?) : d.R e w1 base ok v xs := by
  have h2 : d.R e wr base (fun j => ok j ∧ j ≠ k) v xs := by
    refine Kd.R_mono (Kd.R_bound h) fun j hj => ⟨hj.1, ?_⟩
    obtain ⟨_, _, _, q, hq, cs, hc⟩ := hj
    rw [hE] at hq
    obtain rfl : q = e := by simpa using hq
    rintro rfl
    rw [hk] at hc
    exact ho _ _ (Option.some.inj hc)
  exact Kd.R_mono (Kd.R_step h2 fun j hj hlt => hm j hlt hj.2) fun j hj => hj.1

section
variable {w wr w1 : World} {gb g : Nat} {vops v6 : Value} {i : Int} {out : List S30}
theorem DSt.calm (h : DSt w gb vops wr g i v6 out) (hb : Below wr.heap.size wr w1) : DSt w gb vops w1 g i v6 out :=
  ⟨blk_below h.at_ hb, h.hg, blk_below h.res hb, h.hgb, Kd.R_below h.out_ hb, Kd.R_below h.ops hb, below_step h.below hb⟩
theorem DSt.drewN (h : DSt w gb vops wr g i v6 out) (n : Nat) : DSt w gb vops (wr.drewN n) g i v6 out := h.calm (pw_below_drewN (Below.refl _ _) n)
theorem DSt.alloc (h : DSt w gb vops wr g i v6 out) (o : Obj) : DSt w gb vops (wr.alloc o) g i v6 out := h.calm (below_alloc (Below.refl _ _) o)
/-- The place's variable is written. -/
theorem DSt.grown (h : DSt w gb vops wr g i v6 out) {j : Int} (hg : wr.grownBy w1 (some g)) (hj : w1.heap[g]? = some (.cells #[.int .i64 j] 3 (0, 0))) : DSt w gb vops w1 g j v6 out := by
  have hm : ∀ k, k < wr.heap.size → k ≠ g → w1.heap[k]? = wr.heap[k]? := fun k hk hne => hg.block k hk (fun e => hne (Option.some.inj e))
  refine ⟨hj, h.hg, ?_, h.hgb, R_spared h.out_ rfl h.at_ (by intro cs fr e; cases e) hm, R_spared h.ops rfl h.at_ (by intro cs fr e; cases e) hm, pw_below_grown h.below (some g) h.below.size hg (fun k hk => by cases hk; exact h.hg)⟩
  rw [hm gb (blk_lt h.res) (blk_ne h.res h.at_ (by decide))]
  exact h.res
theorem DSt.put (h : DSt w gb vops wr g i v6 out) (j : Int) : DSt w gb vops (wr.setCell ⟨g, 0, none⟩ (.int .i64 j)) g j v6 out :=
  h.grown (grown_put (World.grownBy.refl _ _) _) (blk_put h.at_ 0 _ rfl)
/-- A block of a make that the state does not speak of is written. -/
theorem DSt.other (h : DSt w gb vops wr g i v6 out) {k : Nat} {o : Obj} (hk : wr.heap[k]? = some o) (h3 : ∀ cs fr, o ≠ .cells cs 3 fr) (h25 : ∀ cs fr, o ≠ .cells cs 25 fr) (h30 : ∀ cs fr, o ≠ .cells cs 30 fr) (h9 : ∀ cs fr, o ≠ .cells cs 9 fr) (hwk : w.heap.size ≤ k) (hg : wr.grownBy w1 (some k)) : DSt w gb vops w1 g i v6 out := by
  have hm : ∀ j, j < wr.heap.size → j ≠ k → w1.heap[j]? = wr.heap[j]? := fun j hj hne => hg.block j hj (fun e => hne (Option.some.inj e))
  refine ⟨?_, h.hg, ?_, h.hgb, R_spared h.out_ rfl hk h30 hm, R_spared h.ops rfl hk h9 hm, pw_below_grown h.below (some k) h.below.size hg (fun k' hk' => by cases hk'; exact hwk)⟩
  · rw [hm g (blk_lt h.at_) (by rintro rfl; exact absurd (Option.some.inj (hk.symm.trans h.at_)) (h3 _ _))]
    exact h.at_
  · rw [hm gb (blk_lt h.res) (by rintro rfl; exact absurd (Option.some.inj (hk.symm.trans h.res)) (h25 _ _))]
    exact h.res
/-- A new variable for the place. -/
theorem DSt.moved (h : DSt w gb vops wr g i v6 out) {g' : Nat} (hg' : wr.heap[g']? = some (.cells #[.int .i64 i] 3 (0, 0))) (hw : w.heap.size ≤ g') : DSt w gb vops wr g' i v6 out := ⟨hg', hw, h.res, h.hgb, h.out_, h.ops, h.below⟩
/-- An instruction is appended. -/
theorem DSt.longer (h : DSt w gb vops wr g i v6 out) {v1 : Value} {out1 : List S30} (ho : Kd.R k30 30 w1 w.heap.size (fun _ => True) v1 out1) (hb : Below w.heap.size w w1) (hg : wr.grownBy w1 v6.ownBlock) : DSt w gb vops w1 g i v1 out1 :=
  ⟨blk_grown h.at_ hg (Kd.R_ne h.out_ h.at_ (by decide)), h.hg, blk_grown h.res hg (Kd.R_ne h.out_ h.res (by decide)), h.hgb, ho, Kd.R_over' h.ops (Kd.R_typed h.out_) (by decide) hg, hb⟩
end
end Go.Proofs.YtepcdjaghoclfaaDoor.My
