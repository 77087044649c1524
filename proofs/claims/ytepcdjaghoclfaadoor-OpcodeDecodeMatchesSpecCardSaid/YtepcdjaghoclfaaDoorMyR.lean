/- The contract of the reference's function Decoded: it returns what the plain function decL answers. Conditions: the bytes are bytes, of which there are at most as many as a slice can hold, and the library's variables hold what they were laid with. -/
import Derived.Test.YtepcdjaghoclfaaDoorMyQ
namespace Go.Proofs.YtepcdjaghoclfaaDoor.My
open Go.RowKit Go.Proofs.YtepcdjaghoclfaaDoorW.PrintWords Go.Proofs.YtepcdjaghoclfaaDoorW.PrintLast Go.Proofs.YtepcdjaghoclfaaDoorW.PrintMore Go.Proofs.YtepcdjaghoclfaaDoor.POpcodeDecodeMatchesSpec
set_option linter.unusedVariables false
set_option linter.unusedSimpArgs false

def DecPost (w : World) (r : List S30 × Int × Int) (e : Ending) (w' : World) : Prop :=
  ∃ v0 : Value, e = .returned (.tuple #[v0, .agg #[.int .i64 r.2.1, .int .i64 r.2.2]]) ∧ Kd.R k30 30 w' w.heap.size (fun _ => True) v0 r.1 ∧ Below w.heap.size w w'
theorem box_step {w W : World} {g : Nat} (h : Below w.heap.size w W) (hg : g = W.heap.size) : w.heap.size ≤ g := by rw [hg]; exact h.size
theorem grown_iter (w : World) (k : Nat) (s : ByteArray) (p : Nat) : w.grownBy (w.iterAt k s p) (some k) :=
  ⟨rfl, rfl, rfl, by rw [Lib.iterAt_size]; exact Nat.le_refl _, fun j _ hne => Lib.iterAt_other w k j s p (fun e => hne (by rw [e]))⟩
theorem grown_cell (w : World) (k j : Nat) (v : Value) : w.grownBy (w.setCell ⟨k, j, none⟩ v) (some k) :=
  ⟨rfl, rfl, rfl, by simp [World.setCell], fun i _ hne => Below.heap_setCell _ _ _ _ (by intro e; exact hne (by rw [e]))⟩
theorem iter_ne {w : World} {k g : Nat} {s : ByteArray} {p : Nat} {cs : Array Value} {t : TypeId} (h : w.heap[k]? = some (.stringIter s p)) (hg : w.heap[g]? = some (.cells cs t (0, 0))) : k ≠ g := by
  rintro rfl
  rw [h] at hg
  cases hg
theorem blk_far' {w : World} {k g : Nat} {o : Obj} (h : w.heap[k]? = some o) (hne : k ≠ g) (j : Nat) (v : Value) : (w.setCell ⟨g, j, none⟩ v).heap[k]? = some o := (Below.heap_setCell w _ _ _ hne).trans h
theorem opers_ok : (opers.all fun s => decide (s.size ≤ 2) && s.data.toList.all fun b => decide (b.toNat < 128)) = true := by decide +kernel
theorem oper_ok (i : Nat) : (opers.getD i ByteArray.empty).size ≤ 2 ∧ ∀ (p : Nat) (h : p < (opers.getD i ByteArray.empty).size), ((opers.getD i ByteArray.empty)[p]'h).toNat < 128 := by
  have h0 : ∀ s ∈ opers, s.size ≤ 2 ∧ ∀ b ∈ s.data.toList, b.toNat < 128 := by
    intro s hs
    have h3 : (decide (s.size ≤ 2) && s.data.toList.all fun b => decide (b.toNat < 128)) = true := List.all_eq_true.1 opers_ok s hs
    rw [Bool.and_eq_true] at h3
    exact ⟨of_decide_eq_true h3.1, fun b hb => of_decide_eq_true (List.all_eq_true.1 h3.2 b hb)⟩
  rw [List.getD_eq_getElem?_getD]
  cases h : opers[i]? with
  | none => exact ⟨by decide, fun p hp => absurd hp (by simp)⟩
  | some s =>
    obtain ⟨h1, h2⟩ := h0 s (List.mem_of_getElem? h)
    exact ⟨h1, fun p hp => h2 _ (by simp [ByteArray.getElem_eq_getElem_data])⟩

theorem sept_bounds (l : List Int) : ∀ (f : Nat) (i n wt k : Int), 0 ≤ i → i ≤ l.length → 0 ≤ (sept l f i n wt k).2.2 ∧ (sept l f i n wt k).2.2 ≤ l.length := by
  intro f
  induction f with
  | zero => intro i n wt k h0 h1; exact ⟨h0, h1⟩
  | succ f ih =>
    intro i n wt k h0 h1
    rw [sept]
    by_cases a : (l.length : Int) ≤ i
    · rw [if_pos a]; exact ⟨h0, h1⟩
    · rw [if_neg a]
      by_cases b : k = 3
      · rw [if_pos b]; exact ⟨h0, h1⟩
      · rw [if_neg b]
        by_cases c : rd l i < 128
        · rw [if_pos c]
          by_cases d : rd l i = 0 ∧ 0 < k
          · rw [if_pos d]; exact ⟨by show 0 ≤ i + 1; omega, by show i + 1 ≤ _; omega⟩
          · rw [if_neg d]; exact ⟨by show 0 ≤ i + 1; omega, by show i + 1 ≤ _; omega⟩
        · rw [if_neg c]; exact ih _ _ _ _ (by omega) (by omega)

set_option maxHeartbeats 16000000 in
set_option maxRecDepth 100000 in
theorem decoded_calls (k : Nat) (A : Option Addr) (c0 : Nat) (l : List Int) (r : List S30 × Int × Int) (w : World) (hT : Tabs w) (hl : ∀ x ∈ l, 0 ≤ x ∧ x ≤ 255) (hlen : l.length ≤ 140737488351232) (hC : Kd.C (Kd.int .u8) w A l.length l) (hc0 : l.length ≤ c0) (h : decL l k 0 [] = some r) :
    Calls Tryd.prog 5 #[.slice A l.length c0] w (DecPost w r) := by
  have hu25 := Tryd.underlying25
  have hu30 := Tryd.underlying30
  have HT := Aside0.mk hT
  have HL := Aside0.mk hl
  have HC := Aside0.mk hC
  have HC0 := Aside0.mk hc0
  have H' := Aside0.mk h
  have HB := Aside0.mk (Below.refl w.heap.size w)
  clear hT hl hC h hc0
  go_enter Tryd.func5, Tryd.ntmps5
  go_wp2_with (first
    | ((with_reducible refine gate_dst (N := 3) rfl ?_); refine box_event ?hg (N := 3) ?hd (cs := #[.int .i64 0, .int .i64 0]) (t := 25) ?hr ?_; (case hd => rfl); (case hg => rfl); (case hr => first | (go_simp; done) | (go_simp; rfl)); intro gb hg w3 hbox hb; have n0_ := Aside0.mk (below_step HB.out hb); have n1_ := Aside0.mk hbox; have n2_ := Aside0.mk (box_step HB.out hg); clear HB hb hbox hg; have HB := n0_; have BK := n1_; have GE := n2_; clear n0_ n1_ n2_)
    | ((with_reducible refine gate_callee (f := 13) rfl ?_); refine goesL_ (some 15) rfl rfl Tryd.func13 (by kernel_rfl) rfl #[] rfl (by (try simp only [List.map_toArray, List.map_cons, List.map_nil]); first | done | rfl) ?_; (with_reducible refine (instr_calls _ (HT.out.below HB.out)).mono ?_); rintro e w4 ⟨vn, vops, rfl, ho, hb⟩; refine ⟨_, rfl, ?_⟩; have n0_ := Aside0.mk (Kd.R_lower ho HB.out.size); have n1_ := Aside0.mk (below_step HB.out hb); have n2_ := Aside0.mk (blk_below BK.out hb); clear HB BK hb ho; have HO := n0_; have HB := n1_; have BK := n2_; clear n0_ n1_ n2_)
    | ((with_reducible refine gate_dst (N := 7) rfl ?_); refine box_event ?hg (N := 7) ?hd (cs := #[.int .i64 0]) (t := 3) ?hr ?_; (case hd => rfl); (case hg => rfl); (case hr => first | (go_simp; done) | (go_simp; rfl)); intro g0 hg w5 hbox hb; have n0_ := Aside0.mk (DSt.mk (v6 := .slice none 0 0) (out := []) hbox (box_step HB.out hg) (blk_below BK.out hb) GE.out (Kd.R_nil _ _ _ _ _) (Kd.R_below HO.out hb) (below_step HB.out hb)); clear HB BK HO hb hg; have HS := n0_; clear n0_; have hcell := (blk_cell hbox 0).trans rfl; have hfroz := blk_frozen hbox 0; clear hbox))
  clear hcell hfroz
  obtain ⟨Ao, co, eo⟩ := Kd.R_slice HS.out.ops
  rw [opers_length] at eo
  subst eo
  go_loopg [6, 7] k (fun kq v6 v7 wr => ∃ (out : List S30) (i : Int) (g : Nat), v7 = .pointer (some ⟨g, 0, none⟩) ∧ 0 ≤ i ∧ i ≤ l.length ∧ out.length ≤ 60000 ∧ Aside0 (decL l kq i out = some r) ∧ Aside0 (kq ≤ k) ∧ Aside0 (DSt w gb (.slice Ao 80 co) wr g i v6 out))
  case atStart => exact ⟨[], 0, g0, rfl, by omega, by omega, by decide, H', ⟨Nat.le_refl _⟩, ⟨HS.out.put 0⟩⟩
  case round =>
    clear HS H'
    obtain ⟨out, i, g, rfl, hi0, hi1, hol, HA, HK, HS⟩ := hrel
    cases gk with
    | zero => exact absurd HA.out (by simp [decL])
    | succ k1 =>
      have H := HA.out
      clear HA
      rw [decL] at H
      have hcell : wr.cell? ⟨g, 0, none⟩ = some (.int .i64 i) := (blk_cell HS.out.at_ 0).trans rfl
      have hfroz := blk_frozen HS.out.at_ 0
      obtain ⟨A6, c6, e6⟩ := Kd.R_slice HS.out.out_
      subst e6
      by_cases hlt : i < (l.length : Int)
      · rw [if_pos hlt] at H
        obtain ⟨ad, ead, hx⟩ := Kd.at_int HC.out i hi0 hlt
        cases ead
        replace hx := (HS.out.below.cell (World.block_lt_of_cell? w _ hx)).trans hx
        obtain ⟨hx0, hx1⟩ := rd_byte HL.out i
        by_cases hop : 80 ≤ rd l i
        · rw [if_pos hop] at H
          obtain rfl := Option.some.inj H
          clear H
          go_wp2_with (first | ((with_reducible refine gate_callee (f := 14) rfl ?_); refine goesL_ (some 35) rfl rfl Tryd.func14 (by kernel_rfl) rfl #[.int .i64 (5), .int .i64 (i)] rfl (by (try simp only [List.map_toArray, List.map_cons, List.map_nil]); first | done | rfl) ?_; (with_reducible refine (brindlewoodref7_At.calls (5) (i) (5) (i) _ rfl).mono ?_); rintro e w16 ⟨rfl, hb⟩; refine ⟨_, rfl, ?_⟩; have n0_ := Aside0.mk (((HS.out.put (i + 1))).calm hb); clear HS hb; have HS := n0_; clear n0_; have hz0 := (blk_cell HS.out.res 0).trans rfl; have hz1 := (blk_cell HS.out.res 1).trans rfl; have hf0 := blk_frozen HS.out.res 0; have hf1 := blk_frozen HS.out.res 1))
          refine bodyPost_ret (results_tc rfl _ _ gb 25 #[.int .i64 (5), .int .i64 (i)] (0, 0) _ rfl (blk_put (cs := #[.int .i64 (5), .int .i64 0]) (blk_put (cs := #[.int .i64 0, .int .i64 0]) HS.out.res 0 _ rfl) 1 _ rfl) Tryd.underlying25 rfl (by kernel_rfl)) rfl ?_
          exact ⟨_, rfl, Kd.R_nil _ _ _ _ _, below_set (below_set HS.out.below HS.out.hgb) HS.out.hgb⟩
        · rw [if_neg hop] at H
          by_cases hout : out.length = 60000
          · rw [if_pos hout] at H
            obtain rfl := Option.some.inj H
            clear H
            have hob : ((out.length : Int) == 60000) = true := beq_iff_eq.mpr (by omega)
            clear hout
            go_wp2_with (first | ((with_reducible refine gate_callee (f := 14) rfl ?_); refine goesL_ (some 39) rfl rfl Tryd.func14 (by kernel_rfl) rfl #[.int .i64 (2), .int .i64 (-1)] rfl (by (try simp only [List.map_toArray, List.map_cons, List.map_nil]); first | done | rfl) ?_; (with_reducible refine (brindlewoodref7_At.calls (2) (-1) (2) (-1) _ rfl).mono ?_); rintro e w16 ⟨rfl, hb⟩; refine ⟨_, rfl, ?_⟩; have n0_ := Aside0.mk (((HS.out.put (i + 1))).calm hb); clear HS hb; have HS := n0_; clear n0_; have hz0 := (blk_cell HS.out.res 0).trans rfl; have hz1 := (blk_cell HS.out.res 1).trans rfl; have hf0 := blk_frozen HS.out.res 0; have hf1 := blk_frozen HS.out.res 1))
            refine bodyPost_ret (results_tc rfl _ _ gb 25 #[.int .i64 (2), .int .i64 (-1)] (0, 0) _ rfl (blk_put (cs := #[.int .i64 (2), .int .i64 0]) (blk_put (cs := #[.int .i64 0, .int .i64 0]) HS.out.res 0 _ rfl) 1 _ rfl) Tryd.underlying25 rfl (by kernel_rfl)) rfl ?_
            exact ⟨_, rfl, Kd.R_nil _ _ _ _ _, below_set (below_set HS.out.below HS.out.hgb) HS.out.hgb⟩
          · rw [if_neg hout] at H
            have hob : ((out.length : Int) == 60000) = false := beq_eq_false_iff_ne.mpr (by omega)
            clear hout
            have hol1 : out.length < 60000 := by simp at hob; omega
            have HOL := Aside0.mk hol1
            clear hol hol1
            obtain ⟨s, hs⟩ : ∃ s, s = opers.getD (rd l i).toNat ByteArray.empty := ⟨_, rfl⟩
            have hok := oper_ok (rd l i).toNat
            rw [← hs] at hok
            have hop80 : (rd l i) < ((80 : Nat) : Int) := by omega
            have HOP := Aside0.mk hop80
            have HSD := Aside0.mk hs
            have HOK := Aside0.mk hok
            obtain ⟨G, hG⟩ : ∃ G, G = given l (cnt (rd l i)) 0 (i + 1) 0 0 := ⟨_, rfl⟩
            rw [← hG] at H
            have HGD : Aside0 (given l (s.size - 0) 0 (i + 1) 0 0 = G) := ⟨by rw [hG, hs, Nat.sub_zero, cnt]⟩
            have HI := Aside0.mk H
            obtain ⟨ado, eado, _⟩ := Kd.at_string (Kd.R_reads' HS.out.ops).2.2 (rd l i) hx0 (by rw [opers_length]; omega)
            cases eado
            clear hs hok hop80 H hG
            go_wp2_with (first
              | ((with_reducible refine gate_dst (N := 10) rfl ?_); refine box_event ?hg (N := 10) ?hd (cs := #[.int .i64 0, .int .i64 0]) (t := 46) ?hr ?_; (case hd => rfl); (case hg => rfl); (case hr => first | (go_simp; done) | (go_simp; rfl)); intro gG hgg w7 hbox hb; have n0_ := Aside0.mk ((HS.out.put (i + 1)).calm hb); have n1_ := Aside0.mk hbox; have n2_ := Aside0.mk (box_step (HS.out.put (i + 1)).below hgg); clear hb hgg hbox; have HS2 := n0_; have BG := n1_; have GG := n2_; clear n0_ n1_ n2_; have hxo : w7.cell? (ado.add (rd l i).toNat) = some (.string s) := (by obtain ⟨ad2, e2, h2⟩ := Kd.at_string (Kd.R_reads' HS2.out.ops).2.2 (rd l i) hx0 (by rw [opers_length]; exact HOP.out); cases e2; rw [HSD.out]; exact h2)))
            clear hcell hfroz hxo hx
            obtain ⟨it, hit⟩ : ∃ it : Nat, it = w7.heap.size := ⟨_, rfl⟩
            rw [← hit]
            have BI : Aside0 ((w7.iter s 0).heap[it]? = some (.stringIter s 0)) := ⟨by rw [hit]; exact blk_new _ _⟩
            have GI : Aside0 (w.heap.size ≤ it) := ⟨by rw [hit]; exact HS2.out.below.size⟩
            have BG2 : Aside0 ((w7.iter s 0).heap[gG]? = some (.cells #[.int .i64 0, .int .i64 0] 46 (0, 0))) := ⟨blk_alloc BG.out _⟩
            have HS3 : Aside0 (DSt w gb (.slice (some ado) 80 co) (w7.iter s 0) g (i + 1) (.slice A6 out.length c6) out) := ⟨HS2.out.alloc _⟩
            clear HS HS2 BG hit
            go_loopg [11] s.size (fun kq v11 wr2 => ∃ (p : Nat) (j a b : Int), p ≤ s.size ∧ kq = s.size - p ∧ 0 ≤ j ∧ j ≤ l.length ∧ Aside0 (given l (s.size - p) p j a b = G) ∧ Aside0 (wr2.heap[it]? = some (.stringIter s p)) ∧ Aside0 (wr2.heap[gG]? = some (.cells #[.int .i64 a, .int .i64 b] 46 (0, 0))) ∧ Aside0 (DSt w gb (.slice (some ado) 80 co) wr2 g j (.slice A6 out.length c6) out))
            case atStart => exact ⟨0, i + 1, 0, 0, Nat.zero_le _, rfl, by omega, by omega, HGD, BI, BG2, HS3⟩
            case round =>
              clear HGD BI BG2 HS3
              obtain ⟨p, j, a, b, hp, rfl, hj0, hj1, HG, HI2, BG, HS⟩ := hrel
              by_cases hps : p < s.size
              · have hnx := fun ty => Lib.run_next_ascii_at (P := Tryd.prog) wr it s p ty HI2.out hps (HOK.out.2 p hps)
                have HG1 : Aside0 (given l ((s.size - p - 1) + 1) p j a b = G) := ⟨by rw [show s.size - p - 1 + 1 = s.size - p by omega]; exact HG.out⟩
                obtain ⟨S, hS⟩ : ∃ S, S = sept l 4 j 0 1 0 := ⟨_, rfl⟩
                have hSb := sept_bounds l 4 j 0 1 0 hj0 hj1
                have hg1 := HG1.out
                rw [given] at hg1
                rw [← hS] at hg1 hSb
                have HS1 : Aside0 (DSt w gb (.slice (some ado) 80 co) (wr.iterAt it s (p + 1)) g j (.slice A6 out.length c6) out) := ⟨HS.out.other HI2.out (by intro cs fr e; cases e) (by intro cs fr e; cases e) (by intro cs fr e; cases e) (by intro cs fr e; cases e) GI.out (grown_iter _ _ _ _)⟩
                have HI3 : Aside0 ((wr.iterAt it s (p + 1)).heap[it]? = some (.stringIter s (p + 1))) := ⟨Lib.iterAt_heap _ _ _ _ _ HI2.out⟩
                have BG1 : Aside0 ((wr.iterAt it s (p + 1)).heap[gG]? = some (.cells #[.int .i64 a, .int .i64 b] 46 (0, 0))) := ⟨by rw [Lib.iterAt_other _ _ _ _ _ (Ne.symm (iter_ne HI2.out BG.out))]; exact BG.out⟩
                have HSS := Aside0.mk hS
                have HSB := Aside0.mk hSb
                have hp01 : p = 0 ∨ p = 1 := by have := HOK.out.1; omega
                have HP01 := Aside0.mk hp01
                clear HG HG1 HI2 BG HS hS hSb hp01
                by_cases hs0 : S.2.1 = 0
                · rw [if_pos hs0] at hg1
                  have hsb : (S.2.1 != 0) = false := bne_eq_false_iff_eq.mpr hs0
                  clear hs0
                  by_cases hbig : 16000 < S.1
                  · rw [if_pos hbig] at hg1
                    have HGE := Aside0.mk hg1
                    clear hg1
                    go_wp2_with (first | ((with_reducible refine gate_callee (f := 15) rfl ?_); refine goesL_ (some 50) rfl rfl Tryd.func15 (by kernel_rfl) rfl #[.slice (some ad) l.length c0, .pointer (some ⟨g, 0, none⟩)] rfl (by (try simp only [List.map_toArray, List.map_cons, List.map_nil]); first | done | rfl) ?_; (with_reducible refine (septet_calls w _ (some ad) c0 l g j HL.out hlen HC.out HC0.out HS1.out.below HS1.out.hg HS1.out.at_ hj0 hj1).mono ?_); rw [← HSS.out]; rintro e w8 ⟨rfl, hat, hgr⟩; refine ⟨_, rfl, ?_⟩; have n0_ := Aside0.mk (HS1.out.grown hgr hat); have n1_ := Aside0.mk (blk_grown HI3.out hgr (fun e => iter_ne HI3.out HS1.out.at_ (Option.some.inj e))); have n2_ := Aside0.mk (blk_grown BG1.out hgr (fun e => blk_ne BG1.out HS1.out.at_ (by decide) (Option.some.inj e))); clear HS1 HI3 BG1 hat hgr; have HS := n0_; have HI3 := n1_; have BG1 := n2_; clear n0_ n1_ n2_; have hgz0 := (blk_cell BG1.out 0).trans rfl; have hgz1 := (blk_cell BG1.out 1).trans rfl; have hgf0 := blk_frozen BG1.out 0; have hgf1 := blk_frozen BG1.out 1) | ((with_reducible refine gate_callee (f := 14) rfl ?_); refine goesL_ (some 61) rfl rfl Tryd.func14 (by kernel_rfl) rfl #[.int .i64 (16), .int .i64 (i)] rfl (by (try simp only [List.map_toArray, List.map_cons, List.map_nil]); first | done | rfl) ?_; (with_reducible refine (brindlewoodref7_At.calls (16) (i) (16) (i) _ rfl).mono ?_); rintro e w16 ⟨rfl, hb⟩; refine ⟨_, rfl, ?_⟩; have n0_ := Aside0.mk ((HS.out).calm hb); clear HS hb; have HS := n0_; clear n0_; have hz0 := (blk_cell HS.out.res 0).trans rfl; have hz1 := (blk_cell HS.out.res 1).trans rfl; have hf0 := blk_frozen HS.out.res 0; have hf1 := blk_frozen HS.out.res 1))
                    have hi := HI.out
                    rw [← HGE.out, if_neg (by show ¬ ((16 : Int) = 0); decide)] at hi
                    obtain rfl := Option.some.inj hi
                    refine bodyPost_ret (results_tc rfl _ _ gb 25 #[.int .i64 (16), .int .i64 (i)] (0, 0) _ rfl (blk_put (cs := #[.int .i64 (16), .int .i64 0]) (blk_put (cs := #[.int .i64 0, .int .i64 0]) HS.out.res 0 _ rfl) 1 _ rfl) Tryd.underlying25 rfl (by kernel_rfl)) rfl ?_
                    exact ⟨_, rfl, Kd.R_nil _ _ _ _ _, below_set (below_set HS.out.below HS.out.hgb) HS.out.hgb⟩
                  · rw [if_neg hbig] at hg1
                    have HGE := Aside0.mk hg1
                    clear hg1
                    rcases HP01.out with hp0 | hp0
                    · subst hp0
                      go_wp2_with (first | ((with_reducible refine gate_callee (f := 15) rfl ?_); refine goesL_ (some 50) rfl rfl Tryd.func15 (by kernel_rfl) rfl #[.slice (some ad) l.length c0, .pointer (some ⟨g, 0, none⟩)] rfl (by (try simp only [List.map_toArray, List.map_cons, List.map_nil]); first | done | rfl) ?_; (with_reducible refine (septet_calls w _ (some ad) c0 l g j HL.out hlen HC.out HC0.out HS1.out.below HS1.out.hg HS1.out.at_ hj0 hj1).mono ?_); rw [← HSS.out]; rintro e w8 ⟨rfl, hat, hgr⟩; refine ⟨_, rfl, ?_⟩; have n0_ := Aside0.mk (HS1.out.grown hgr hat); have n1_ := Aside0.mk (blk_grown HI3.out hgr (fun e => iter_ne HI3.out HS1.out.at_ (Option.some.inj e))); have n2_ := Aside0.mk (blk_grown BG1.out hgr (fun e => blk_ne BG1.out HS1.out.at_ (by decide) (Option.some.inj e))); clear HS1 HI3 BG1 hat hgr; have HS := n0_; have HI3 := n1_; have BG1 := n2_; clear n0_ n1_ n2_; have hgz0 := (blk_cell BG1.out 0).trans rfl; have hgz1 := (blk_cell BG1.out 1).trans rfl; have hgf0 := blk_frozen BG1.out 0; have hgf1 := blk_frozen BG1.out 1))
                      have HI4 := Aside0.mk (blk_far' HI3.out (iter_ne HI3.out BG1.out) 0 (.int .i64 S.1))
                      go_roundg (s.size - (0 + 1))
                      case measure => omega
                      case rel => exact ⟨1, S.2.2, S.1, b, by omega, rfl, HSB.out.1, HSB.out.2, ⟨by rw [← HGE.out]; congr 1⟩, HI4, ⟨blk_put BG1.out 0 _ rfl⟩, ⟨HS.out.other BG1.out (by intro cs fr e; cases e) (by intro cs fr e; cases e) (by intro cs fr e; cases e) (by intro cs fr e; cases e) GG.out (grown_cell _ _ _ _)⟩⟩
                    · subst hp0
                      go_wp2_with (first | ((with_reducible refine gate_callee (f := 15) rfl ?_); refine goesL_ (some 50) rfl rfl Tryd.func15 (by kernel_rfl) rfl #[.slice (some ad) l.length c0, .pointer (some ⟨g, 0, none⟩)] rfl (by (try simp only [List.map_toArray, List.map_cons, List.map_nil]); first | done | rfl) ?_; (with_reducible refine (septet_calls w _ (some ad) c0 l g j HL.out hlen HC.out HC0.out HS1.out.below HS1.out.hg HS1.out.at_ hj0 hj1).mono ?_); rw [← HSS.out]; rintro e w8 ⟨rfl, hat, hgr⟩; refine ⟨_, rfl, ?_⟩; have n0_ := Aside0.mk (HS1.out.grown hgr hat); have n1_ := Aside0.mk (blk_grown HI3.out hgr (fun e => iter_ne HI3.out HS1.out.at_ (Option.some.inj e))); have n2_ := Aside0.mk (blk_grown BG1.out hgr (fun e => blk_ne BG1.out HS1.out.at_ (by decide) (Option.some.inj e))); clear HS1 HI3 BG1 hat hgr; have HS := n0_; have HI3 := n1_; have BG1 := n2_; clear n0_ n1_ n2_; have hgz0 := (blk_cell BG1.out 0).trans rfl; have hgz1 := (blk_cell BG1.out 1).trans rfl; have hgf0 := blk_frozen BG1.out 0; have hgf1 := blk_frozen BG1.out 1))
                      have HI4 := Aside0.mk (blk_far' HI3.out (iter_ne HI3.out BG1.out) 1 (.int .i64 S.1))
                      go_roundg (s.size - (1 + 1))
                      case measure => omega
                      case rel => exact ⟨2, S.2.2, a, S.1, by omega, rfl, HSB.out.1, HSB.out.2, ⟨by rw [← HGE.out]; congr 1⟩, HI4, ⟨blk_put BG1.out 1 _ rfl⟩, ⟨HS.out.other BG1.out (by intro cs fr e; cases e) (by intro cs fr e; cases e) (by intro cs fr e; cases e) (by intro cs fr e; cases e) GG.out (grown_cell _ _ _ _)⟩⟩
                · rw [if_neg hs0] at hg1
                  have hsb : (S.2.1 != 0) = true := bne_iff_ne.mpr hs0
                  have HGE := Aside0.mk hg1
                  have HS0 := Aside0.mk hs0
                  clear hg1 hs0
                  go_wp2_with (first | ((with_reducible refine gate_callee (f := 15) rfl ?_); refine goesL_ (some 50) rfl rfl Tryd.func15 (by kernel_rfl) rfl #[.slice (some ad) l.length c0, .pointer (some ⟨g, 0, none⟩)] rfl (by (try simp only [List.map_toArray, List.map_cons, List.map_nil]); first | done | rfl) ?_; (with_reducible refine (septet_calls w _ (some ad) c0 l g j HL.out hlen HC.out HC0.out HS1.out.below HS1.out.hg HS1.out.at_ hj0 hj1).mono ?_); rw [← HSS.out]; rintro e w8 ⟨rfl, hat, hgr⟩; refine ⟨_, rfl, ?_⟩; have n0_ := Aside0.mk (HS1.out.grown hgr hat); have n1_ := Aside0.mk (blk_grown HI3.out hgr (fun e => iter_ne HI3.out HS1.out.at_ (Option.some.inj e))); have n2_ := Aside0.mk (blk_grown BG1.out hgr (fun e => blk_ne BG1.out HS1.out.at_ (by decide) (Option.some.inj e))); clear HS1 HI3 BG1 hat hgr; have HS := n0_; have HI3 := n1_; have BG1 := n2_; clear n0_ n1_ n2_; have hgz0 := (blk_cell BG1.out 0).trans rfl; have hgz1 := (blk_cell BG1.out 1).trans rfl; have hgf0 := blk_frozen BG1.out 0; have hgf1 := blk_frozen BG1.out 1) | ((with_reducible refine gate_callee (f := 14) rfl ?_); refine goesL_ (some 57) rfl rfl Tryd.func14 (by kernel_rfl) rfl #[.int .i64 (S.2.1), .int .i64 (i)] rfl (by (try simp only [List.map_toArray, List.map_cons, List.map_nil]); first | done | rfl) ?_; (with_reducible refine (brindlewoodref7_At.calls (S.2.1) (i) (S.2.1) (i) _ rfl).mono ?_); rintro e w16 ⟨rfl, hb⟩; refine ⟨_, rfl, ?_⟩; have n0_ := Aside0.mk ((HS.out).calm hb); clear HS hb; have HS := n0_; clear n0_; have hz0 := (blk_cell HS.out.res 0).trans rfl; have hz1 := (blk_cell HS.out.res 1).trans rfl; have hf0 := blk_frozen HS.out.res 0; have hf1 := blk_frozen HS.out.res 1))
                  have hi := HI.out
                  rw [← HGE.out, if_neg HS0.out] at hi
                  obtain rfl := Option.some.inj hi
                  refine bodyPost_ret (results_tc rfl _ _ gb 25 #[.int .i64 (S.2.1), .int .i64 (i)] (0, 0) _ rfl (blk_put (cs := #[.int .i64 (S.2.1), .int .i64 0]) (blk_put (cs := #[.int .i64 0, .int .i64 0]) HS.out.res 0 _ rfl) 1 _ rfl) Tryd.underlying25 rfl (by kernel_rfl)) rfl ?_
                  exact ⟨_, rfl, Kd.R_nil _ _ _ _ _, below_set (below_set HS.out.below HS.out.hgb) HS.out.hgb⟩
              · obtain rfl : p = s.size := by omega
                have hnx := fun ty => Lib.run_next_end_at (P := Tryd.prog) wr it s s.size ty HI2.out (by omega)
                have hg1 := HG.out
                rw [Nat.sub_self, given] at hg1
                have hi := HI.out
                rw [← hg1, if_pos rfl] at hi
                have HE := Aside0.mk hi
                clear hg1 hi HG HI
                have hgz0 := (blk_cell BG.out 0).trans rfl
                have hgz1 := (blk_cell BG.out 1).trans rfl
                go_wp2_with (first
                  | ((with_reducible refine gate_builtin (b := .append) (xs := #[.tmp 65, .tmp 72]) rfl ?_); at_builtin; refine Kd.R_append k30 (w0 := w) w.heap.size rfl (.tmp 65) (.tmp 72) 23 30 (.agg #[(.int .i64 0), (.int .i64 0), (.int .i64 0)]) 24 rfl Tryd.underlying23 info30 rfl (by decide) (by omega) (.slice A6 out.length c6) out (⟨rd l i, a, b⟩ : S30) [.int .i64 (rd l i), .int .i64 a, .int .i64 b] (fun _ => True) (fun _ => False) rfl rfl ?aP (fun _ hk => hk.elim) (fun _ _ => trivial) HS.out.out_ HS.out.below HS.out.below.size ?aL ?_; (case aP => exact k30_mkM _ _ _ (⟨rd l i, a, b⟩ : S30)); (case aL => have := HOL.out; omega); intro v9 w9 ho hb hgr hat; have n0_ := Aside0.mk (HS.out.longer ho hb hgr); clear HS ho hb hgr hat; have HS := n0_; clear n0_; have hcell9 := (blk_cell HS.out.at_ 0).trans rfl)
                  | ((with_reducible refine gate_dst (N := 7) rfl ?_); refine box_event ?hg (N := 7) ?hd (cs := #[.int .i64 0]) (t := 3) ?hr ?_; (case hd => rfl); (case hg => rfl); (case hr => first | (go_simp; done) | (go_simp; rfl)); intro g1 hgg w10 hbox hb; have n0_ := Aside0.mk (HS.out.calm hb); have n1_ := Aside0.mk (box_step HS.out.below hgg); have n2_ := Aside0.mk hbox; clear HS hb hgg hbox; have HS := n0_; have GG1 := n1_; have BX := n2_; clear n0_ n1_ n2_; have hcx := (blk_cell BX.out 0).trans rfl; have hfx := blk_frozen BX.out 0))
                go_roundg k1
                case measure => have := HK.out; omega
                case rel => exact ⟨out ++ [⟨rd l i, a, b⟩], j, g1, rfl, hj0, hj1, (by have := HOL.out; simp; omega), HE, ⟨by have := HK.out; omega⟩, ⟨(DSt.mk BX.out GG1.out HS.out.res HS.out.hgb HS.out.out_ HS.out.ops HS.out.below).put j⟩⟩
      · rw [if_neg hlt] at H
        obtain rfl := Option.some.inj H
        clear H
        have hz0 := (blk_cell HS.out.res 0).trans rfl
        have hz1 := (blk_cell HS.out.res 1).trans rfl
        have hf0 := blk_frozen HS.out.res 0
        have hf1 := blk_frozen HS.out.res 1
        go_wp2
        refine bodyPost_ret (results_tc rfl _ _ gb 25 #[.int .i64 0, .int .i64 0] (0, 0) _ rfl (blk_put (cs := #[.int .i64 0, .int .i64 0]) (blk_put (cs := #[.int .i64 0, .int .i64 0]) HS.out.res 0 _ rfl) 1 _ rfl) Tryd.underlying25 rfl (by kernel_rfl)) rfl ?_
        exact ⟨_, rfl, R_spared (R_spared HS.out.out_ rfl HS.out.res (by intro cs fr e; cases e) (fun j _ hne => Below.heap_setCell _ _ _ _ hne)) rfl (blk_put HS.out.res 0 _ rfl) (by intro cs fr e; cases e) (fun j _ hne => Below.heap_setCell _ _ _ _ hne), below_set (below_set HS.out.below HS.out.hgb) HS.out.hgb⟩
end Go.Proofs.YtepcdjaghoclfaaDoor.My
