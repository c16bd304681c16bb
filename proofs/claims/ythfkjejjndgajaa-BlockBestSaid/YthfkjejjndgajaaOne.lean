/- One block (block.one). -/
import Derived.Test.YthfkjejjndgajaaBody
import Derived.Test.YthfkjejjndgajaaTokens
import Derived.Test.YthfkjejjndgajaaMCode
namespace Go.Proofs.Ythfkjejjndgajaa
open Go.RowKit Go.Proofs.YthfkjejjndgajaaW.PrintWords
open Rq (Tok tokensM oneM restBits litLens farLens fixedLit fixedFar bodyBits headBits)

theorem xor16' : ∀ i : Nat, i < 61 → ∀ j : Nat, j < 50 → bits BinOp.xor IntKind.i64 ((50 * i + j : Nat) : Int) 65535 = 65535 - ((50 * i + j : Nat) : Int) := by decide +kernel
theorem xor16 (n : Nat) (h : n < 3001) : bits BinOp.xor IntKind.i64 (n : Int) 65535 = 65535 - (n : Int) := by
  have := xor16' (n / 50) (by omega) (n % 50) (by omega)
  rw [show 50 * (n / 50) + n % 50 = n by omega] at this
  exact this
theorem tokens_good (b : List UInt8) (hb : b.length ≤ 3000) : ∀ t ∈ tokensM b, TokGood t := fun t ht =>
  ⟨(Rq.tokensM_ok b hb t ht).b, Rq.fits_each _ _ (Rq.tokensM_back b).1 (by rw [(Rq.tokensM_back b).2]; exact hb) t ht⟩

set_option maxHeartbeats 2000000 in
set_option maxRecDepth 100000 in
theorem one_calls {w : World} {g base : Nat} {v : Value} {bs : List Bool} (h : IsRow w g base v bs) (hb : base ≤ w.heap.size) {A : Option Addr} {c : Nat} {b : List UInt8}
    (hr : Rd base [5, 45] w (Kd.int .u8) A b.length (bnums b)) (hc : b.length ≤ c) (hn : b.length ≤ 3000) (kind : Nat) (z : Int) (hz : z = kind) (hk : kind ≤ 2) (last : Bool) (hbs : bs.length ≤ 600000) :
    Calls Try.prog 22 #[.pointer (some ⟨g, 0, none⟩), .slice A b.length c, .int .i64 z, .bool last] w fun e w' => e = .returned (.tuple #[]) ∧
      ∃ v', IsRow w' g base v' (oneM bs b kind last) ∧ FrT base [5, 45] w w' := by
  subst hz
  obtain ⟨n, hnd⟩ : ∃ n, n = b.length := ⟨_, rfl⟩
  have HI := Aside0.mk (And.intro h (And.intro hr hc))
  rw [← hnd] at hn ⊢
  have HN := Aside0.mk (And.intro hnd hbs)
  clear h hr hc hnd hbs
  go_enter Try.func22, Try.ntmps22
  go_upto_if 15 with fail
  go_cut [8] (fun v8 wx => v8 = .int .i64 (last.toNat : Int) ∧ wx = w)
  case first =>
    cases last
    · go_wp2_with fail
      go_meet
      case rel => exact ⟨rfl, rfl⟩
    · go_wp2_with fail
      go_meet
      case rel => exact ⟨rfl, rfl⟩
  case rest =>
    obtain ⟨rfl, rfl⟩ := hcut
    have hl1 : last.toNat ≤ 1 := by cases last <;> decide
    have HP1 := Aside0.mk (put_calls HI.out.1 hb last.toNat 1 (last.toNat : Int) 1 rfl rfl (by omega) (by decide) (by have := HN.out.2; omega))
    go_wp2_with fail
    refine HP1.out.mono ?_
    clear HP1
    rintro e w1 ⟨rfl, v1, hrow1, hfr1⟩
    have H1 := Aside0.mk (And.intro hrow1 hfr1)
    have hb1 : base ≤ w1.heap.size := Nat.le_trans hb hfr1.size
    clear hrow1 hfr1
    have HP2 := Aside0.mk (put_calls H1.out.1 hb1 kind 2 (kind : Int) 2 rfl rfl (by omega) (by decide) (by have := HN.out.2; rw [List.length_append, Rq.bitsOf_length]; omega))
    go_wp2_with fail
    refine HP2.out.mono ?_
    clear HP2
    rintro e w2 ⟨rfl, v2, hrow2, hfr2⟩
    obtain ⟨bs2, hbs2⟩ : ∃ bs2, bs2 = bs ++ Rq.bitsOf last.toNat 1 ++ Rq.bitsOf kind 2 := ⟨_, rfl⟩
    rw [← hbs2] at hrow2
    have hbl2 : bs2.length ≤ 600003 := by rw [hbs2]; have := HN.out.2; simp only [List.length_append, Rq.bitsOf_length]; omega
    have H2 := Aside0.mk (And.intro hrow2 (And.intro (H1.out.2.trans hfr2) hbs2))
    have hb2 : base ≤ w2.heap.size := Nat.le_trans hb1 hfr2.size
    have HL2 := Aside0.mk hbl2
    clear hrow2 hfr2 hbs2 hbl2 H1 hb1
    by_cases hk0 : kind = 0
    · subst hk0
      have HF := Aside0.mk (fill_calls H2.out.1)
      go_wp2_with fail
      refine HF.out.mono ?_
      clear HF
      rintro e w3 ⟨rfl, hrow3, hfr3⟩
      have hfl := Rq.fill_length bs2
      have hfl2 : (Rq.fill bs2).length ≤ 600020 := by have := HL2.out; omega
      have H3 := Aside0.mk (And.intro hrow3 (H2.out.2.1.trans hfr3))
      have hb3 : base ≤ w3.heap.size := Nat.le_trans hb2 hfr3.size
      clear hrow3 hfr3 hfl
      have HP4 := Aside0.mk (put_calls H3.out.1 hb3 n 16 (n : Int) 16 rfl rfl (by omega) (by decide) (by omega))
      go_wp2_with fail
      refine HP4.out.mono ?_
      clear HP4
      rintro e w4 ⟨rfl, v4, hrow4, hfr4⟩
      have H4 := Aside0.mk (And.intro hrow4 (H3.out.2.trans hfr4))
      have hb4 : base ≤ w4.heap.size := Nat.le_trans hb3 hfr4.size
      clear hrow4 hfr4 H3 hb3
      have hx := xor16 n (by omega)
      have HP5 := Aside0.mk (put_calls H4.out.1 hb4 (65535 - n) 16 (65535 - (n : Int)) 16 (by omega) rfl (by omega) (by decide) (by rw [List.length_append, Rq.bitsOf_length]; omega))
      rw [← hx] at HP5
      clear hx
      go_wp2_with fail
      refine HP5.out.mono ?_
      clear HP5
      rintro e w5 ⟨rfl, v5, hrow5, hfr5⟩
      have H5 := Aside0.mk (And.intro hrow5 (H4.out.2.trans hfr5))
      have hb5 : base ≤ w5.heap.size := Nat.le_trans hb4 hfr5.size
      clear hrow5 hfr5 H4 hb4
      go_wp2_with fail
      go_loopw [37] (fun vk wr => ∃ (q : Nat) (vr : Value), vk = .int .i64 q ∧ q ≤ n ∧ Aside0 (IsRow wr g base vr (Rq.fill bs2 ++ Rq.bitsOf n 16 ++ Rq.bitsOf (65535 - n) 16 ++ (b.take q).flatMap fun x => Rq.bitsOf x.toNat 8) ∧ FrT base [5, 45] wc wr)) (fun vk _ => n - (intOf vk).toNat)
      case atStart => exact ⟨0, v5, rfl, Nat.zero_le _, ⟨by simpa using H5.out.1, H5.out.2⟩⟩
      case round =>
        obtain ⟨q, vr, rfl, hq, HR⟩ := hrel
        by_cases hlt : q < n
        · have x1 : (q : Int) < n := by omega
          have hC := HI.out.2.1.at_ HR.out.2
          rw [← HN.out.1] at hC
          obtain ⟨ad, hA, hcell⟩ := Kd.at_int hC (q : Int) (by omega) (by omega)
          cases hA
          rw [rd_bn, Int.toNat_natCast] at hcell
          obtain ⟨x, hx⟩ : ∃ x, x = b.getD q 0 := ⟨_, rfl⟩
          rw [← hx] at hcell
          have hx255 := x.toNat_lt
          have hlen : ((b.take q).flatMap fun x => Rq.bitsOf x.toNat 8).length ≤ 24000 := by
            have h1 := Rq.flat_len (fun x : UInt8 => Rq.bitsOf x.toNat 8) 8 (b.take q) (fun x _ => by rw [Rq.bitsOf_length]; exact Nat.le_refl _)
            rw [List.length_take] at h1; omega
          have HX := Aside0.mk hx
          have HPq := Aside0.mk (put_calls HR.out.1 (Nat.le_trans hb HR.out.2.size) x.toNat 8 (x.toNat : Int) 8 rfl rfl (by omega) (by decide) (by rw [List.length_append, List.length_append, List.length_append, Rq.bitsOf_length, Rq.bitsOf_length]; omega))
          clear hC hx hlen
          go_wp2_with fail
          refine HPq.out.mono ?_
          clear HPq
          rintro e w6 ⟨rfl, v6, hrow6, hfr6⟩
          have H6 := Aside0.mk (And.intro hrow6 (HR.out.2.trans hfr6))
          clear hrow6 hfr6
          go_wp2_with fail
          go_roundw
          case rel =>
            refine ⟨q + 1, v6, by go_num, by omega, ⟨?_, H6.out.2⟩⟩
            have e : b.take (q + 1) = b.take q ++ [x] := by
              have hq2 : q < b.length := by have := HN.out.1; omega
              rw [List.take_succ_eq_append_getElem hq2, HX.out, List.getD_eq_getElem?_getD, List.getElem?_eq_getElem hq2]; rfl
            rw [e, List.flatMap_append, List.flatMap_singleton, ← List.append_assoc]
            exact H6.out.1
          case measure => simp [intOf]; omega
        · have x1 : ¬ (q : Int) < n := by omega
          obtain rfl : q = n := by omega
          go_wp2_with fail
          refine bodyPost_ret (results_none rfl _ _ _) rfl ?_
          refine ⟨rfl, ⟨vr, ?_⟩, HR.out.2⟩
          have h1 := HR.out.1
          have h2 := HN.out.1
          rw [List.take_of_length_le (by omega)] at h1
          rw [oneM, restBits, if_pos rfl, ← H2.out.2.2, ← h2]
          simp only [List.append_assoc] at h1 ⊢
          exact h1
    · have TK := tokens_calls (w := w2) (A := A) (c := c) (b := b) (HI.out.2.1.at_ H2.out.2.1) HI.out.2.2 (by rw [← HN.out.1]; omega)
      rw [← HN.out.1] at TK
      have x0 : ((kind : Int) == 0) = false := by simp; omega
      have hgood := tokens_good b (by rw [← HN.out.1]; exact hn)
      have htl := Rq.tokensM_len b
      rw [← HN.out.1] at htl
      go_wp2_with fail
      refine TK.mono ?_
      clear TK
      rintro e w3 ⟨vt, rfl, hRt, hBt⟩
      obtain ⟨At, ct, rfl⟩ := Kd.R_slice hRt
      have H3 := Aside0.mk (And.intro hRt (And.intro hBt (And.intro hgood htl)))
      clear hRt hBt hgood htl
      go_wp2_with fail
      refine (fixed_calls w3).mono ?_
      rintro e w4 ⟨vf1, vf2, rfl, hRf1, hRf2, hBf⟩
      obtain ⟨Af1, cf1, rfl⟩ := Kd.R_slice hRf1
      obtain ⟨Af2, cf2, rfl⟩ := Kd.R_slice hRf2
      rw [nn_length] at hRf1 hRf2 ⊢
      rw [nn_length] at ⊢
      have hB24 := H3.out.2.1.trans (hBf.mono H3.out.2.1.size)
      have H4 := Aside0.mk (And.intro hRf1 (And.intro hRf2 (And.intro (Kd.R_below H3.out.1 hBf) hB24)))
      have hb4 : base ≤ w4.heap.size := Nat.le_trans hb2 hB24.size
      have H4r := Aside0.mk (H2.out.1.below hB24)
      have H4f := Aside0.mk (H2.out.2.1.below hB24)
      clear hRf1 hRf2 hBf hB24
      have HTR := Aside0.mk (show Rd base [5, 45] w4 kTok At (tokensM b).length (tokensM b) from Rd.of_own H4.out.2.2.1 (by simp [kTok]))
      by_cases hk2 : kind = 2
      · subst hk2
        have hct := (Kd.R_reads' H4.out.2.2.1).2.1
        have htk := fun t ht => Rq.tokensM_ok b (by rw [← HN.out.1]; exact hn) t ht
        have HBl := Aside0.mk (blens_calls (c := ct) HTR.out.now (by have := H3.out.2.2.2; omega) htk)
        clear hct htk
        go_wp2_with fail
        refine HBl.out.mono ?_
        clear HBl
        rintro e w5 ⟨vl1, vl2, rfl, hRl1, hRl2, hBl⟩
        obtain ⟨Al1, cl1, rfl⟩ := Kd.R_slice hRl1
        obtain ⟨Al2, cl2, rfl⟩ := Kd.R_slice hRl2
        have e1 : Rq.weighM (Rq.litCounts (tokensM b)) 15 = litLens (tokensM b) := rfl
        have e2 : Rq.weighM (Rq.farCounts (tokensM b)) 15 = farLens (tokensM b) := rfl
        rw [e1, nn_length] at hRl1 ⊢
        rw [e2, nn_length] at hRl2 ⊢
        have H5 := Aside0.mk (And.intro hRl1 (And.intro hRl2 hBl))
        have hb5 : base ≤ w5.heap.size := Nat.le_trans hb4 hBl.size
        have hr1 := Kd.R_reads' hRl1
        have hr2 := Kd.R_reads' hRl2
        rw [nn_length] at hr1 hr2
        have HHd := Aside0.mk (head_calls (H4r.out.below hBl) hb5 hr1.2.2 hr1.2.1 hr2.2.2 hr2.2.1 (Rq.litLens_len _) (Rq.farLens_len _) (Rq.litLens_Right _) (Rq.farLens_Right _) (by have := HL2.out; omega))
        clear hRl1 hRl2 hBl e1 e2 hr1 hr2
        go_wp2_with fail
        refine HHd.out.mono ?_
        clear HHd
        rintro e w6 ⟨rfl, v6, hrow6, hfr6⟩
        have H6 := Aside0.mk (And.intro hrow6 hfr6)
        have hb6 : base ≤ w6.heap.size := Nat.le_trans hb5 hfr6.size
        clear hrow6 hfr6
        have hhl := Rq.headBits_len (litLens (tokensM b)) (farLens (tokensM b)) (by rw [Rq.litLens_len]; exact Nat.le_refl _) (by rw [Rq.farLens_len]; exact Nat.le_refl _) (Rq.litLens_Right _).le (Rq.farLens_Right _).le
        have HBo := Aside0.mk (body_calls (ts := tokensM b) (c := ct) H6.out.1 hb6 ((HTR.out.step ((FrT.refl base [5, 45] w4).below H5.out.2.2)).step H6.out.2) ((Rd.of_own H5.out.1 (by simp [Kd.int, Kd.scalar])).step H6.out.2) (Kd.R_reads' H5.out.1).2.1 ((Rd.of_own H5.out.2.1 (by simp [Kd.int, Kd.scalar])).step H6.out.2) (Kd.R_reads' H5.out.2.1).2.1 (by rw [Rq.litLens_len]; exact Nat.le_refl _) (by rw [Rq.farLens_len]; exact Nat.le_refl _) (Rq.litLens_Right _) (Rq.farLens_Right _) (by have := H3.out.2.2.2; omega) H3.out.2.2.1 (by have := HL2.out; rw [List.length_append]; omega))
        clear hhl
        go_wp2_with fail
        refine HBo.out.mono ?_
        clear HBo
        rintro e w7 ⟨rfl, v7, hrow7, hfr7⟩
        have H7 := Aside0.mk (And.intro hrow7 hfr7)
        clear hrow7 hfr7
        go_wp2_with fail
        go_end0
        refine ⟨rfl, v7, ?_, H4f.out.trans (((FrT.refl base _ w4).below H5.out.2.2).trans (H6.out.2.trans H7.out.2))⟩
        have h1 := H7.out.1
        rw [oneM, restBits, if_neg (by decide), if_pos rfl, ← H2.out.2.2]
        rw [List.append_assoc] at h1
        exact h1
      · obtain rfl : kind = 1 := by omega
        have HBo := Aside0.mk (body_calls (ts := tokensM b) (c := ct) H4r.out hb4 HTR.out (Rd.of_own H4.out.1 (by simp [Kd.int, Kd.scalar])) (Kd.R_reads' H4.out.1).2.1 (Rd.of_own H4.out.2.1 (by simp [Kd.int, Kd.scalar])) (Kd.R_reads' H4.out.2.1).2.1 (by rw [Rq.fixedLit_len]; decide) (by rw [Rq.fixedFar_len]; decide) Rq.fixedLit_Right Rq.fixedFar_Right (by have := H3.out.2.2.2; omega) H3.out.2.2.1 (by have := HL2.out; omega))
        go_wp2_with fail
        refine HBo.out.mono ?_
        clear HBo
        rintro e w5 ⟨rfl, v5, hrow5, hfr5⟩
        have H5 := Aside0.mk (And.intro hrow5 hfr5)
        clear hrow5 hfr5
        go_wp2_with fail
        go_end0
        refine ⟨rfl, v5, ?_, H4f.out.trans H5.out.2⟩
        have h1 := H5.out.1
        rw [oneM, restBits, if_neg (by decide), if_neg (by decide), ← H2.out.2.2]
        exact h1
end Go.Proofs.Ythfkjejjndgajaa
