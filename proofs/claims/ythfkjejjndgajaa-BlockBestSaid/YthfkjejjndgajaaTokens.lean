/- The tokens of bytes (match.Tokens). -/
import Derived.Test.YthfkjejjndgajaaMIdx
import Derived.Test.YthfkjejjndgajaaMWeigh
import Derived.Deep.CutRange
namespace Go.Proofs.Ythfkjejjndgajaa
open Go.RowKit Go.Proofs.YthfkjejjndgajaaW.PrintWords
open Rq (Tok key3 at3 findM pickM tokensAt tokensM tokensAt_byte tokensAt_same tokensAt_end)

theorem info_tok : (Try.prog.info? 107).map (fun i => (i.zero, i.size, i.bytes)) = some (some (.agg #[.int .u8 0, .int .i64 0, .int .i64 0]), 3, 24) := by kernel_rfl

/-- What stays in the loop. -/
structure TokRel (w wr : World) (v5 : Value) (b : List UInt8) (k m : Nat) (ts : List Tok) : Prop where
  own : Kd.R kTok 107 wr w.heap.size (fun _ => True) v5 ts
  idx : IsIdx wr w.heap.size w.heap.size (at3 b m)
  below : Below w.heap.size w wr
  size : w.heap.size < wr.heap.size
  len : ts.length ≤ k
  eq : ts ++ tokensAt b k = tokensM b

theorem TokRel.drew {w wr w1 : World} {v5 : Value} {b : List UInt8} {k m : Nat} {ts : List Tok} (h : TokRel w wr v5 b k m ts) (hd : Drawn0 wr w1) : TokRel w w1 v5 b k m ts :=
  ⟨Kd.R_below h.own hd.below, h.idx.below hd.below, h.below.trans (hd.below.mono h.below.size), Nat.lt_of_lt_of_le h.size hd.below.size, h.len, h.eq⟩
theorem TokRel.put {w wr w1 : World} {v5 : Value} {b : List UInt8} {k m m' : Nat} {ts : List Tok} (h : TokRel w wr v5 b k m ts) (hf : FrM w.heap.size w.heap.size wr w1) (hi : IsIdx w1 w.heap.size w.heap.size (at3 b m')) : TokRel w w1 v5 b k m' ts := by
  refine ⟨Kd.R_mono (Kd.R_step (Kd.R_bound h.own) (fun j hj hlt => ?_)) (fun _ hj => hj.1), hi, h.below.trans (hf.to_below (Nat.le_refl _) (Nat.le_refl _) h.below.size), Nat.lt_of_lt_of_le h.size hf.size, h.len, h.eq⟩
  obtain ⟨_, hb, _, q, hq, cells, hc⟩ := hj
  have hq' : q = 107 := by simpa [kTok] using hq
  subst hq'
  obtain ⟨es, clock, hm, _⟩ := h.idx
  refine hf.block j hlt (fun e => ?_) (fun _ => ?_)
  · subst e; rw [hm] at hc; cases hc
  · rintro ⟨q, c2, fr, hq2, hc2⟩
    rw [hc] at hc2
    injection hc2 with hc2
    injection hc2 with _ hc2
    subst hc2
    exact absurd hq2 (by decide)

theorem TokRel.grown {w wr w5 : World} {v5 : Value} {b : List UInt8} {k m : Nat} {ts : List Tok} (h : TokRel w wr v5 b k m ts) (hg : wr.grownBy w5 v5.ownBlock) : IsIdx w5 w.heap.size w.heap.size (at3 b m) := by
  refine h.idx.step (fun j hj hc => hg.block j hj (fun e => ?_))
  obtain ⟨cells, ht⟩ := Kd.R_typed h.own j e.symm
  rcases hc with rfl | ⟨_, q, c2, fr, hq, hc2⟩
  · obtain ⟨es, clock, hm, _⟩ := h.idx
    rw [hm] at ht; cases ht
  · rw [ht] at hc2
    injection hc2 with hc2
    injection hc2 with _ hc2
    subst hc2
    exact absurd hq (by decide)

set_option maxHeartbeats 2000000 in
set_option maxRecDepth 100000 in
theorem tokens_calls {w : World} {A : Option Addr} {c : Nat} {b : List UInt8} (hr : Kd.C (Kd.int .u8) w A b.length (bnums b)) (hc : b.length ≤ c) (hn : b.length ≤ 3000) :
    Calls Try.prog 36 #[.slice A b.length c] w fun e w' => ∃ v, e = .returned (.tuple #[v, .int .i64 0]) ∧ Kd.R kTok 107 w' w.heap.size (fun _ => True) v (tokensM b) ∧ Below w.heap.size w w' := by
  have HC := Aside0.mk hr
  have HL := Aside0.mk hc
  have hmm := @run_makeMap Try.prog
  obtain ⟨n, hnd⟩ : ∃ n, n = b.length := ⟨_, rfl⟩
  rw [← hnd] at hn
  have HN := Aside0.mk hnd
  clear hr hc hnd
  rw [← HN.out]
  go_enter Try.func36, Try.ntmps36
  go_wp2_with fail
  go_loopw [5, 6] (fun v5 v6 wr => ∃ k : Nat, v6 = .int .i64 k ∧ k ≤ n ∧ Aside0 (∃ ts, TokRel w wr v5 b k k ts)) (fun _ v6 _ => n - (intOf v6).toNat)
  case atStart => exact ⟨0, rfl, Nat.zero_le _, ⟨[], Kd.R_nil _ _ _ _ _, IsIdx.made w _, below_alloc (Below.refl _ _) _, by simp, Nat.le_refl _, rfl⟩⟩
  case round =>
    obtain ⟨k, rfl, hk, HT⟩ := hrel
    by_cases hlt : k < n
    · obtain ⟨⟨ts, hts⟩⟩ := HT
      have HF := Aside0.mk (find_calls (w := wr) (A := A) (c := c) (b := b) (m := k) hts.idx (Kd.C_below HC.out hts.below) HL.out (by rw [← HN.out]; exact hn) k (k : Int) rfl (by rw [← HN.out]; exact hk) (Nat.le_refl _))
      rw [← HN.out] at HF
      have HT := Aside0.mk hts
      have k1 : (k : Int) < n := by omega
      have hl258 := Rq.findM_le b k k
      have hin := Rq.findM_in b k k (by rw [← HN.out]; exact hk)
      have hfar := Rq.findM_far b k k
      obtain ⟨n1, hn1⟩ : ∃ n1, n1 = (findM b k k).1 := ⟨_, rfl⟩
      obtain ⟨f1, hf1⟩ : ∃ f1, f1 = (findM b k k).2 := ⟨_, rfl⟩
      rw [← hn1, ← hf1] at HF
      rw [← hn1] at hl258 hin
      rw [← hf1] at hfar
      rw [← HN.out] at hin
      have HP := Aside0.mk (And.intro hn1 hf1)
      clear hts hn1 hf1
      go_upto_region 7 with fail
      go_wp2_with fail
      refine HF.out.mono ?_
      rintro e w1 ⟨rfl, hD1⟩
      have HT1 := Aside0.mk (HT.out.drew hD1)
      clear hD1
      go_wp2_with fail
      have HP1 := put3_calls (w := w1) (A := A) (c := c) (b := b) (base := w.heap.size) (blk := w.heap.size) k HT1.out.idx (Nat.le_of_lt HT1.out.size) (Kd.C_below HC.out HT1.out.below) HL.out (by rw [← HN.out]; exact hn) (k : Int) rfl (by omega)
      rw [← HN.out] at HP1
      refine HP1.mono ?_
      clear HP1
      rintro e w2 ⟨rfl, hI2, hF2⟩
      have HT2 := Aside0.mk (HT1.out.put hF2 hI2)
      clear hI2 hF2
      go_upto_region 9 with fail
      go_cut [39] from 16 to 82 (fun v39 wx => ∃ B : Bool, v39 = .bool B ∧ Aside0 (B = decide (0 < n1 ∧ k + 1 < n)) ∧ wx = w2)
      case first =>
        by_cases h0 : 0 < n1
        · have x0 : (0 : Int) < n1 := by omega
          by_cases h1 : k + 1 < n
          · have x1 : (k : Int) + 1 < n := by omega
            go_wp2_with fail
            go_meet
            case rel => exact ⟨true, rfl, ⟨(decide_eq_true (⟨h0, h1⟩ : 0 < n1 ∧ k + 1 < n)).symm⟩, rfl⟩
          · have x1 : ¬ (k : Int) + 1 < n := by omega
            go_wp2_with fail
            go_meet
            case rel => exact ⟨false, rfl, ⟨(decide_eq_false (fun h : 0 < n1 ∧ k + 1 < n => h1 h.2)).symm⟩, rfl⟩
        · obtain rfl : n1 = 0 := by omega
          go_wp2_with fail
          go_meet
          case rel => exact ⟨false, rfl, ⟨(decide_eq_false (fun h : 0 < 0 ∧ k + 1 < n => h0 h.1)).symm⟩, rfl⟩
      case rest =>
        obtain ⟨B, rfl, HBB, rfl⟩ := hcut
        go_upto_if 39 with fail
        go_cut [7, 9, 10] from 16 to 82 (fun v7 v9 v10 wx => ∃ p : Nat, v7 = .int .i64 p ∧ p ≤ 258 ∧ k + p ≤ n ∧ Aside0 (p = (pickM b k).1 ∧ (p ≠ 0 → f1 = (pickM b k).2)) ∧ Aside0 (TokRel w wx u5 b k (k + 1) ts))
        case first =>
          cases B with
          | true =>
            have hcd : 0 < n1 ∧ k + 1 < n := of_decide_eq_true HBB.out.symm
            have hk1 : k + 1 < n := hcd.2
            have HCD := Aside0.mk hcd
            clear hcd
            have HF2 := find_calls (w := wc) (A := A) (c := c) (b := b) (m := k + 1) HT2.out.idx (Kd.C_below HC.out HT2.out.below) HL.out (by rw [← HN.out]; exact hn) (k + 1) ((k : Int) + 1) (by omega) (by rw [← HN.out]; omega) (Nat.le_refl _)
            rw [← HN.out] at HF2
            have hm258 := Rq.findM_le b (k + 1) (k + 1)
            obtain ⟨m1, hm1⟩ : ∃ m1, m1 = (findM b (k + 1) (k + 1)).1 := ⟨_, rfl⟩
            obtain ⟨g1, hg1⟩ : ∃ g1, g1 = (findM b (k + 1) (k + 1)).2 := ⟨_, rfl⟩
            rw [← hm1, ← hg1] at HF2
            rw [← hm1] at hm258
            have HF3 := Aside0.mk HF2
            have HM := Aside0.mk hm1
            clear HF2 hm1 hg1
            go_wp2_with fail
            refine HF3.out.mono ?_
            rintro e w3 ⟨rfl, hD3⟩
            have HT3 := Aside0.mk (HT2.out.drew hD3)
            clear hD3
            by_cases hmn : n1 < m1
            · have x1 : (n1 : Int) < m1 := by omega
              go_wp2_with fail
              go_meet
              case rel =>
                have e : pickM b k = (0, 0) := by
                  unfold pickM
                  rw [if_pos ⟨by rw [← HN.out]; exact hk1, by rw [← HP.out.1, ← HM.out]; exact hmn⟩]
                exact ⟨0, rfl, by decide, by omega, ⟨by rw [e], fun h => absurd rfl h⟩, HT3⟩
            · have x1 : ¬ (n1 : Int) < m1 := by omega
              go_wp2_with fail
              go_meet
              case rel =>
                have e : pickM b k = findM b k k := by
                  unfold pickM
                  rw [if_neg (fun h => hmn (by rw [HP.out.1, HM.out]; exact h.2))]
                exact ⟨n1, rfl, hl258, hin, ⟨by rw [e]; exact HP.out.1, fun _ => by rw [e]; exact HP.out.2⟩, HT3⟩
          | false =>
            have HCD := Aside0.mk (of_decide_eq_false HBB.out.symm)
            go_wp2_with fail
            go_meet
            case rel =>
              refine ⟨n1, rfl, hl258, hin, ⟨?_, fun h0 => ?_⟩, HT2⟩
              · unfold pickM
                split
                · rename_i h
                  apply Classical.byContradiction
                  intro h1
                  exact HCD.out ⟨by have : n1 ≠ 0 := h1; omega, by rw [HN.out]; exact h.1⟩
                · exact HP.out.1
              · have : ¬ k + 1 < b.length := fun h => HCD.out ⟨by omega, by rw [HN.out]; exact h⟩
                unfold pickM
                rw [if_neg (fun h => this h.1)]
                exact HP.out.2
        case rest =>
          obtain ⟨p, rfl, hp258, hpin, HPK, HT4⟩ := hcut
          obtain ⟨ad, hA, hcell⟩ := Kd.at_int (Kd.C_below HC.out HT4.out.below) (k : Int) (by omega) (by rw [← HN.out]; omega)
          cases hA
          rw [rd_bn, Int.toNat_natCast] at hcell
          obtain ⟨x, hx⟩ : ∃ x, x = b.getD k 0 := ⟨_, rfl⟩
          rw [← hx] at hcell
          have HX := Aside0.mk hx
          clear hx
          have HLT := Aside0.mk (show (ts.length + 1) * 24 ≤ 140737488355328 by have := HT4.out.len; omega)
          by_cases h0 : p = 0
          · subst h0
            go_wp2_with (first
              | (at_builtin
                 go_must (refine Kd.R_append kTok (w0 := w) w.heap.size rfl (.tmp 53) (.tmp 59) 67 107 (.agg #[.int .u8 0, .int .i64 0, .int .i64 0]) 24 rfl Try.underlying67 info_tok rfl (by decide) (by decide) _ ts ⟨x.toNat, 0, 0⟩ [.int .u8 (x.toNat : Int), .int .i64 0, .int .i64 0] (fun _ => True) (fun _ => False) rfl rfl rfl (fun _ h => h.elim) (fun _ _ => trivial) HT4.out.own HT4.out.below (Nat.le_of_lt HT4.out.size) HLT.out ?_)
                 intro v' w5 HO5 HB5 hg5 hat5
                 have H5 := Aside0.mk (And.intro HO5 (And.intro HB5 hg5))
                 clear HO5 HB5 hg5 hat5))
            go_roundw
            case rel =>
              refine ⟨k + 1, by go_num, by omega, ⟨ts ++ [⟨x.toNat, 0, 0⟩], ⟨H5.out.1, ?_, H5.out.2.1, ?_, ?_, ?_⟩⟩⟩
              · exact HT4.out.grown H5.out.2.2
              · have := H5.out.2.2.size; have := HT4.out.size; omega
              · have := HT4.out.len; simp; omega
              · rw [← HT4.out.eq, tokensAt_byte b k (by rw [← HN.out]; exact hlt) HPK.out.1.symm, HX.out, List.append_assoc]; rfl
            case measure => simp [intOf]; omega
          · have x0 : ((p : Int) == 0) = false := by simp; omega
            go_wp2_with (first
              | (at_builtin
                 go_must (refine Kd.R_append kTok (w0 := w) w.heap.size rfl (.tmp 63) (.tmp 67) 67 107 (.agg #[.int .u8 0, .int .i64 0, .int .i64 0]) 24 rfl Try.underlying67 info_tok rfl (by decide) (by decide) _ ts ⟨0, p, f1⟩ [.int .u8 0, .int .i64 (p : Int), .int .i64 (f1 : Int)] (fun _ => True) (fun _ => False) rfl rfl rfl (fun _ h => h.elim) (fun _ _ => trivial) HT4.out.own HT4.out.below (Nat.le_of_lt HT4.out.size) HLT.out ?_)
                 intro v' w5 HO5 HB5 hg5 hat5
                 have H5 := Aside0.mk (show TokRel w w5 v' b (k + p) (k + 1) (ts ++ [⟨0, p, f1⟩]) from ⟨HO5, HT4.out.grown hg5, HB5, by have := hg5.size; have := HT4.out.size; omega, by have := HT4.out.len; simp; omega, by
                   have hpk := HPK.out
                   rw [← HT4.out.eq, tokensAt_same b k (by rw [← HN.out]; exact hlt) (by rw [← hpk.1]; exact h0), ← hpk.1, ← hpk.2 h0, List.append_assoc]; rfl⟩)
                 clear HO5 HB5 hg5 hat5))
            go_loopw [11] (fun v11 wi => ∃ j : Nat, v11 = .int .i64 j ∧ 1 ≤ j ∧ j ≤ p ∧ Aside0 (TokRel w wi v' b (k + p) (k + j) (ts ++ [⟨0, p, f1⟩]))) (fun v11 _ => p - (intOf v11).toNat)
            case atStart => exact ⟨1, rfl, Nat.le_refl _, by omega, H5⟩
            case round =>
              obtain ⟨j, rfl, hj1, hjp, HJ⟩ := hrel
              by_cases hjl : j < p
              · have x1 : (j : Int) < p := by omega
                have HPJ := put3_calls (w := wr) (A := some ad) (c := c) (b := b) (base := w.heap.size) (blk := w.heap.size) (k + j) HJ.out.idx (Nat.le_of_lt HJ.out.size) (Kd.C_below HC.out HJ.out.below) HL.out (by rw [← HN.out]; exact hn) ((k : Int) + j) (by omega) (by omega)
                rw [← HN.out] at HPJ
                have HPJ2 := Aside0.mk HPJ
                clear HPJ
                go_wp2_with fail
                refine HPJ2.out.mono ?_
                clear HPJ2
                rintro e w6 ⟨rfl, hI6, hF6⟩
                have H6 := Aside0.mk (HJ.out.put hF6 hI6)
                clear hI6 hF6
                go_wp2_with fail
                go_roundw
                case rel => exact ⟨j + 1, by go_num, by omega, by omega, H6⟩
                case measure => simp [intOf]; omega
              · obtain rfl : j = p := by omega
                have x1 : ¬ (j : Int) < j := by omega
                go_wp2_with fail
                go_roundw
                case rel => exact ⟨k + j, by go_num, by omega, ⟨_, HJ.out⟩⟩
                case measure => simp [intOf]; omega
    · obtain ⟨⟨ts, hts⟩⟩ := HT
      have HT := Aside0.mk hts
      obtain rfl : k = n := by omega
      have x1 : ¬ (k : Int) < k := by omega
      clear hts
      go_wp2_with fail
      go_ret2
      refine ⟨_, rfl, ?_, HT.out.below⟩
      have := HT.out.eq
      rw [tokensAt_end b k (by have := HN.out; omega), List.append_nil] at this
      rw [← this]
      exact HT.out.own
end Go.Proofs.Ythfkjejjndgajaa
