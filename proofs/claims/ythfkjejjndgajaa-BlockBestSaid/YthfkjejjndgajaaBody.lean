/- The body of a block (block.body), and its closure. -/
import Derived.Test.YthfkjejjndgajaaHead
import Derived.Test.YthfkjejjndgajaaPlainA
namespace Go.Proofs.Ythfkjejjndgajaa
open Go.RowKit Go.Proofs.YthfkjejjndgajaaW.PrintWords Go.Proofs.Ythfkjejjndgajaa.Psymbol
open Rq (Tok Right codesM codeOf symBits tokBits bodyBits symS symF fromS' fromF bitsS' bitsF)

set_option maxHeartbeats 1000000 in
set_option maxRecDepth 100000 in
theorem bput_calls {w : World} {g base : Nat} {v : Value} {bs : List Bool} (h : IsRow w g base v bs) (hb : base ≤ w.heap.size) {b4 b6 b8 : Nat} {A6 A8 : Option Addr} {c6 c8 : Nat} {lit : List Nat}
    (h4 : w.cell? ⟨b4, 0, none⟩ = some (.pointer (some ⟨g, 0, none⟩))) (h8 : w.cell? ⟨b8, 0, none⟩ = some (.slice A8 lit.length c8)) (h6 : w.cell? ⟨b6, 0, none⟩ = some (.slice A6 lit.length c6))
    (hC8 : Kd.C (Kd.int .i64) w A8 lit.length (nn (codesM lit))) (hC6 : Kd.C (Kd.int .i64) w A6 lit.length (nn lit)) (hR : Right lit) (k : Nat) (hk : k < lit.length) (z : Int) (hz : z = k) (hbs : bs.length ≤ 990000) :
    Calls Try.prog 70 #[.int .i64 z, .pointer (some ⟨b4, 0, none⟩), .pointer (some ⟨b8, 0, none⟩), .pointer (some ⟨b6, 0, none⟩)] w fun e w' => e = .returned (.tuple #[]) ∧
      ∃ v', IsRow w' g base v' (bs ++ symBits lit k) ∧ FrT base [5, 45] w w' := by
  subst hz
  have hcm := codesM_at lit hR k hk
  have hl15 : lit.getD k 0 ≤ 15 := Rq.getD_le lit 15 k hR.le
  obtain ⟨ad8, hA8, hcc⟩ := Kd.at_int hC8 (k : Int) (by omega) (by omega)
  cases hA8
  obtain ⟨ad6, hA6, hcs⟩ := Kd.at_int hC6 (k : Int) (by omega) (by omega)
  cases hA6
  rw [rd_nn, Int.toNat_natCast] at hcc hcs
  rw [hcm.1] at hcc
  obtain ⟨co, hco⟩ : ∃ co, co = codeOf lit k := ⟨_, rfl⟩
  obtain ⟨si, hsi⟩ : ∃ si, si = lit.getD k 0 := ⟨_, rfl⟩
  rw [← hco] at hcc hcm
  rw [← hsi] at hcs hl15
  have hco2 := hcm.2
  obtain ⟨n, hn⟩ : ∃ n, n = lit.length := ⟨_, rfl⟩
  rw [← hn] at h6 h8 hk
  have hkn : (k : Int) < n := by omega
  have HH := Aside0.mk h
  have HX := Aside0.mk (And.intro hco hsi)
  clear h hC8 hC6 hcm hco hsi hn hk
  go_enter Try.func70, Try.ntmps70
  go_still_tail 9, (by kernel_rfl)
  go_wp2_with fail
  refine (code_calls (w := w.drew) HH.out.drew hb co si (co : Int) (si : Int) rfl rfl (by omega) (by omega) (by omega)).mono ?_
  rintro e w1 ⟨rfl, v1, hrow, hfr⟩
  have H1 := Aside0.mk (And.intro hrow hfr)
  clear hrow hfr
  go_wp2_with fail
  go_end0
  refine ⟨rfl, v1, ?_, ((FrT.refl _ _ _).drew).trans H1.out.2⟩
  rw [symBits, ← HX.out.1, ← HX.out.2]
  exact H1.out.1

/-- Tokens that can be written. -/
structure TokGood (t : Tok) : Prop where
  b : t.b ≤ 255
  same : t.same = 0 ∨ 3 ≤ t.same ∧ t.same ≤ 258 ∧ 1 ≤ t.far ∧ t.far ≤ 3000
theorem samesM_len : samesM.length = 29 := by simp [samesM]
theorem farsM_len : farsM.length = 30 := by simp [farsM]
theorem sames_at (s : Nat) (h : s < 29) : rd_T123 samesM (s : Int) = ⟨(fromS' s : Int), (bitsS' s : Int)⟩ := by
  unfold rd_T123 samesM fromS' bitsS'
  rw [Int.toNat_natCast, List.getD_eq_getElem?_getD]
  by_cases h8 : s < 28
  · rw [List.getElem?_append_left (by simpa using h8), if_neg (by omega), if_neg (by omega)]
    simp [h8, sameAt]
  · obtain rfl : s = 28 := by omega
    rw [List.getElem?_append_right (by simp)]
    simp
theorem fars_at (s : Nat) (h : s < 30) : rd_T123 farsM (s : Int) = ⟨(fromF s : Int), (bitsF s : Int)⟩ := by
  unfold rd_T123 farsM
  rw [Int.toNat_natCast, List.getD_eq_getElem?_getD]
  simp [h, farAt]
/-- Where the body's own things stand. -/
structure BodyEnv (wo : World) (base g b4 b6 b8 : Nat) (A6 A8 A10 A3 A12 A13 : Option Addr) (c3 c6 c8 : Nat) (lit far : List Nat) : Prop where
  k4 : wo.heap[b4]? = some (.cells #[.pointer (some ⟨g, 0, none⟩)] 47 (0, 0))
  k6 : wo.heap[b6]? = some (.cells #[.slice A6 lit.length c6] 30 (0, 0))
  k8 : wo.heap[b8]? = some (.cells #[.slice A8 lit.length c8] 30 (0, 0))
  r6 : Rd base [5, 45] wo (Kd.int .i64) A6 lit.length (nn lit)
  r8 : Rd base [5, 45] wo (Kd.int .i64) A8 lit.length (nn (codesM lit))
  r3 : Rd base [5, 45] wo (Kd.int .i64) A3 far.length (nn far)
  r10 : Rd base [5, 45] wo (Kd.int .i64) A10 far.length (nn (codesM far))
  r12 : Rd base [5, 45] wo k123 A12 samesM.length samesM
  r13 : Rd base [5, 45] wo k123 A13 farsM.length farsM

/-- The state in a round: the row, what is kept, the token. -/
structure BSt (wo : World) (base g p : Nat) (cs : Array Value) (w : World) (v : Value) (bs : List Bool) : Prop where
  row : IsRow w g base v bs
  fr : FrT base [5, 45] wo w
  ge : base ≤ w.heap.size
  tok : w.heap[p]? = some (.cells cs 107 (0, 0))
section
variable {wo w w1 : World} {base g p : Nat} {cs : Array Value} {v v1 : Value} {bs bs1 : List Bool}
theorem BSt.below (h : BSt wo base g p cs w v bs) (hb : Below w.heap.size w w1) : BSt wo base g p cs w1 v bs := ⟨h.row.below hb, h.fr.below hb, Nat.le_trans h.ge hb.size, blk_below h.tok hb⟩
theorem BSt.step (h : BSt wo base g p cs w v bs) (hf : FrT base [5, 45] w w1) (hr : IsRow w1 g base v1 bs1) : BSt wo base g p cs w1 v1 bs1 := ⟨hr, h.fr.trans hf, Nat.le_trans h.ge hf.size, hf.blk h.tok (by decide)⟩
theorem BSt.drew (h : BSt wo base g p cs w v bs) : BSt wo base g p cs w.drew v bs := ⟨h.row.drew, h.fr.drew, h.ge, h.tok⟩
variable {b4 b6 b8 : Nat} {A6 A8 A10 A3 A12 A13 : Option Addr} {c3 c6 c8 : Nat} {lit far : List Nat}
theorem BodyEnv.cell4 (E : BodyEnv wo base g b4 b6 b8 A6 A8 A10 A3 A12 A13 c3 c6 c8 lit far) (hf : FrT base [5, 45] wo w) : w.cell? ⟨b4, 0, none⟩ = some (.pointer (some ⟨g, 0, none⟩)) := by
  simp [World.cell?, hf.blk E.k4 (by decide)]
theorem BodyEnv.bput (E : BodyEnv wo base g b4 b6 b8 A6 A8 A10 A3 A12 A13 c3 c6 c8 lit far) (h : BSt wo base g p cs w v bs) (hR : Right lit) (k : Nat) (hk : k < lit.length) (z : Int) (hz : z = k) (hbs : bs.length ≤ 990000) :
    Calls Try.prog 70 #[.int .i64 z, .pointer (some ⟨b4, 0, none⟩), .pointer (some ⟨b8, 0, none⟩), .pointer (some ⟨b6, 0, none⟩)] w fun e w' => e = .returned (.tuple #[]) ∧
      ∃ v', BSt wo base g p cs w' v' (bs ++ symBits lit k) := by
  refine (bput_calls (c6 := c6) (c8 := c8) h.row h.ge (E.cell4 h.fr) (by simp [World.cell?, h.fr.blk E.k8 (by decide)]) (by simp [World.cell?, h.fr.blk E.k6 (by decide)]) (E.r8.at_ h.fr) (E.r6.at_ h.fr) hR k hk z hz hbs).mono ?_
  rintro e w' ⟨rfl, v', hrow, hf⟩
  exact ⟨rfl, v', h.step hf hrow⟩
end

set_option maxHeartbeats 2000000 in
set_option maxRecDepth 100000 in
theorem body_calls {w : World} {g base : Nat} {v : Value} {bs : List Bool} (h : IsRow w g base v bs) (hb : base ≤ w.heap.size) {A A2 A3 : Option Addr} {c c2 c3 : Nat} {lit far : List Nat} {ts : List Tok}
    (ht : Rd base [5, 45] w kTok A ts.length ts) (h2 : Rd base [5, 45] w (Kd.int .i64) A2 lit.length (nn lit)) (hc2 : lit.length ≤ c2) (h3 : Rd base [5, 45] w (Kd.int .i64) A3 far.length (nn far)) (hc3 : far.length ≤ c3)
    (hl1 : 286 ≤ lit.length) (hl2 : 30 ≤ far.length) (hR1 : Right lit) (hR2 : Right far) (hts : ts.length ≤ 3000) (hok : ∀ t ∈ ts, TokGood t) (hbs : bs.length ≤ 700000) :
    Calls Try.prog 40 #[.pointer (some ⟨g, 0, none⟩), .slice A ts.length c, .slice A2 lit.length c2, .slice A3 far.length c3] w fun e w' => e = .returned (.tuple #[]) ∧
      ∃ v', IsRow w' g base v' (bs ++ bodyBits lit far ts) ∧ FrT base [5, 45] w w' := by
  have hm1 := hR1.many
  have hm2 := hR2.many
  obtain ⟨m1, e1⟩ : ∃ m1, m1 = lit.length := ⟨_, rfl⟩
  obtain ⟨m2, e2⟩ : ∃ m2, m2 = far.length := ⟨_, rfl⟩
  obtain ⟨nt, e3⟩ : ∃ nt, nt = ts.length := ⟨_, rfl⟩
  have HI := Aside0.mk (And.intro h (And.intro ht (And.intro h2 h3)))
  have HN := Aside0.mk (And.intro e1 (And.intro e2 (And.intro e3 (And.intro hR1 (And.intro hR2 (And.intro hok (And.intro hbs (And.intro hc2 hc3))))))))
  rw [← e1] at hl1 hm1 ⊢
  rw [← e2] at hl2 hm2 ⊢
  rw [← e3] at hts ⊢
  clear h ht h2 h3 e1 e2 e3 hR1 hR2 hok hbs hc2 hc3
  go_enter Try.func40, Try.ntmps40
  go_wp2_with fail
  generalize hW1 : World.alloc _ _ = W1
  have hB1 : Below w.heap.size w W1 := by rw [← hW1]; exact below_alloc (below_alloc (Below.refl _ _) _) _
  have k4 : W1.heap[w.heap.size]? = some (.cells #[.pointer (some ⟨g, 0, none⟩)] 47 (0, 0)) := by
    rw [← hW1]
    exact blk_alloc (heap_alloc_new w _) _
  have k6 : W1.heap[w.heap.size + 1]? = some (.cells #[.slice A2 m1 c2] 30 (0, 0)) := by
    have h := heap_alloc_new (w.alloc (.cells #[.pointer (some ⟨g, 0, none⟩)] 47)) (.cells #[.slice A2 m1 c2] 30)
    rw [show (w.alloc (.cells #[.pointer (some ⟨g, 0, none⟩)] 47)).heap.size = w.heap.size + 1 by simp] at h
    rw [← hW1]; exact h
  have HK1 := Aside0.mk (And.intro k4 (And.intro k6 hB1))
  clear k4 k6 hB1 hW1
  have hf1 := (FrT.refl base [5, 45] w).below HK1.out.2.2
  have HC1 := codes_calls (w := W1) (A := A2) (c := c2) (l := lit) (HI.out.2.2.1.at_ hf1) HN.out.2.2.2.2.2.2.2.1 HN.out.2.2.2.1
  rw [← HN.out.1] at HC1
  clear hf1
  refine HC1.mono ?_
  clear HC1
  rintro e w2 ⟨v8, rfl, hR8, hB2⟩
  obtain ⟨A8, c8, rfl⟩ := Kd.R_slice hR8
  have hl8 : (nn (codesM lit)).length = m1 := by rw [nn_length]; unfold codesM; rw [List.length_map, List.length_range]; exact HN.out.1.symm
  have H2 := Aside0.mk (And.intro hR8 hB2)
  rw [hl8] at H2 ⊢
  have HL8 := Aside0.mk hl8
  clear hR8 hB2 hl8
  go_wp2_with fail
  generalize hW3 : World.alloc _ _ = W3
  have hB3 : Below w2.heap.size w2 W3 := by rw [← hW3]; exact below_alloc (Below.refl _ _) _
  have k8 : W3.heap[w2.heap.size]? = some (.cells #[.slice A8 m1 c8] 30 (0, 0)) := by rw [← hW3]; exact heap_alloc_new w2 _
  have hB13 := H2.out.2.trans (hB3.mono H2.out.2.size)
  have HK3 := Aside0.mk (show W3.heap[w.heap.size]? = some (.cells #[.pointer (some ⟨g, 0, none⟩)] 47 (0, 0)) ∧ W3.heap[w.heap.size + 1]? = some (.cells #[.slice A2 m1 c2] 30 (0, 0)) ∧ W3.heap[w2.heap.size]? = some (.cells #[.slice A8 m1 c8] 30 (0, 0)) ∧ Below w.heap.size w W3 ∧
      Kd.R (Kd.int .i64) 3 W3 W1.heap.size (fun _ => True) (.slice A8 m1 c8) (nn (codesM lit)) from
    ⟨blk_below HK1.out.1 hB13, blk_below HK1.out.2.1 hB13, k8, HK1.out.2.2.trans (hB13.mono HK1.out.2.2.size), Kd.R_below H2.out.1 hB3⟩)
  clear k8 hB13 hB3 hW3 H2
  have hf3 := (FrT.refl base [5, 45] w).below HK3.out.2.2.2.1
  have HC3 := codes_calls (w := W3) (A := A3) (c := c3) (l := far) (HI.out.2.2.2.at_ hf3) HN.out.2.2.2.2.2.2.2.2 HN.out.2.2.2.2.1
  rw [← HN.out.2.1] at HC3
  clear hf3
  refine HC3.mono ?_
  clear HC3
  rintro e w4 ⟨v10, rfl, hR10, hB4⟩
  obtain ⟨A10, c10, rfl⟩ := Kd.R_slice hR10
  have hl10 : (nn (codesM far)).length = m2 := by rw [nn_length]; unfold codesM; rw [List.length_map, List.length_range]; exact HN.out.2.1.symm
  have H4 := Aside0.mk (And.intro hR10 hB4)
  rw [hl10] at H4 ⊢
  clear hR10 hB4 hl10
  go_wp2_with fail
  refine (sames_calls w4).mono ?_
  rintro e w5 ⟨v12, rfl, hR12, hB5⟩
  obtain ⟨A12, c12, rfl⟩ := Kd.R_slice hR12
  have H5 := Aside0.mk (And.intro hR12 hB5)
  rw [samesM_len] at H5 ⊢
  clear hR12 hB5
  go_wp2_with fail
  refine (fars_calls w5).mono ?_
  rintro e w6 ⟨v13, rfl, hR13, hB6⟩
  obtain ⟨A13, c13, rfl⟩ := Kd.R_slice hR13
  have H6 := Aside0.mk (And.intro hR13 hB6)
  rw [farsM_len] at H6 ⊢
  clear hR13 hB6
  have hB36 := H4.out.2.trans ((H5.out.2.trans (H6.out.2.mono H5.out.2.size)).mono H4.out.2.size)
  have hB06 := HK3.out.2.2.2.1.trans (hB36.mono HK3.out.2.2.2.1.size)
  have hc12 := (Kd.R_reads' H5.out.1).2.1
  have hc13 := (Kd.R_reads' H6.out.1).2.1
  have HE := Aside0.mk (show BodyEnv w6 base g w.heap.size (w.heap.size + 1) w2.heap.size A2 A8 A10 A3 A12 A13 c3 c2 c8 lit far from by
    have hf6 := (FrT.refl base [5, 45] w).below hB06
    have e1 := HN.out.1
    have e2 := HN.out.2.1
    refine ⟨blk_below HK3.out.1 hB36, ?_, ?_, HI.out.2.2.1.step hf6, ?_, HI.out.2.2.2.step hf6, ?_, ?_, ?_⟩
    · rw [← e1]; exact blk_below HK3.out.2.1 hB36
    · rw [← e1]; exact blk_below HK3.out.2.2.1 hB36
    · rw [← e1]; exact Rd.of_own (Kd.R_below HK3.out.2.2.2.2 hB36) (by simp [Kd.int, Kd.scalar])
    · rw [← e2]; exact Rd.of_own (Kd.R_below H4.out.1 (H5.out.2.trans (H6.out.2.mono H5.out.2.size))) (by simp [Kd.int, Kd.scalar])
    · rw [samesM_len]; exact Rd.of_own (Kd.R_below H5.out.1 H6.out.2) (by simp [k123, Kd.iso, Kd.pair, Kd.int, Kd.scalar])
    · rw [farsM_len]; exact Rd.of_own H6.out.1 (by simp [k123, Kd.iso, Kd.pair, Kd.int, Kd.scalar]))
  have HB := Aside0.mk (And.intro hB06 (And.intro (Nat.le_trans hb hB06.size) (And.intro hc12 hc13)))
  have HI6 := Aside0.mk (HI.out.1.below hB06)
  have HT6 := Aside0.mk (HI.out.2.1.step ((FrT.refl base [5, 45] w).below hB06))
  clear hB36 hB06 hc12 hc13 H4 H5 H6 HK1 HK3 HI
  have hmf : ∀ (fn : Fn) (first cap : Array Value) (w : World), (Instr.makeFunc fn first cap).run Try.prog w = .ok (.func fn first cap) w := fun _ _ _ _ => rfl
  go_wp2_with fail
  go_loopw [34] (fun vk wr => ∃ (q : Nat) (vr : Value), vk = .int .i64 q ∧ q ≤ nt ∧ Aside0 (IsRow wr g base vr (bs ++ (ts.take q).flatMap (tokBits lit far)) ∧ FrT base [5, 45] w6 wr)) (fun vk _ => nt - (intOf vk).toNat)
  case atStart => exact ⟨0, v, rfl, Nat.zero_le _, ⟨by simpa using HI6.out, FrT.refl _ _ _⟩⟩
  case round =>
    obtain ⟨q, vr, rfl, hq, HR⟩ := hrel
    have hlen : ((ts.take q).flatMap (tokBits lit far)).length ≤ 180000 := by
      have h1 := Rq.flat_len (tokBits lit far) 60 (ts.take q) (fun t _ => Rq.tokBits_len lit far HN.out.2.2.2.1.le HN.out.2.2.2.2.1.le t)
      rw [List.length_take] at h1; omega
    have HLn := Aside0.mk hlen
    clear hlen
    by_cases hlt : q < nt
    · have hC := HT6.out.at_ HR.out.2
      rw [← HN.out.2.2.1] at hC
      obtain ⟨t, ht⟩ : ∃ t, ts[q]? = some t := ⟨_, List.getElem?_eq_getElem (by have := HN.out.2.2.1; omega)⟩
      obtain ⟨ad, hA, x0, x1, x2⟩ := tok_cells hC q hlt t ht
      have hto := HN.out.2.2.2.2.2.1 t (List.mem_of_getElem? ht)
      cases hA
      have HT := Aside0.mk (And.intro ht hto)
      obtain ⟨tb, tsm, tf⟩ := t
      have hb255 := hto.b
      simp only at x0 x1 x2 hb255
      have k1 : (q : Int) < nt := by omega
      clear hC hto ht
      go_upto_if 40 with fail
      generalize hW1 : World.alloc _ _ = W1
      have hB1 : Below wr.heap.size wr W1 := by rw [← hW1]; exact below_alloc (Below.refl _ _) _
      have HS1 := Aside0.mk (show BSt w6 base g wr.heap.size #[.int .u8 (tb : Int), .int .i64 (tsm : Int), .int .i64 (tf : Int)] W1 vr (bs ++ (ts.take q).flatMap (tokBits lit far)) from
        ⟨HR.out.1.below hB1, HR.out.2.below hB1, Nat.le_trans HB.out.2.1 (Nat.le_trans HR.out.2.size hB1.size), by rw [← hW1]; exact heap_alloc_new wr _⟩)
      have p0 : W1.cell? ⟨wr.heap.size, 0, none⟩ = some (.int .u8 (tb : Int)) := by simp [World.cell?, HS1.out.tok]
      have p1 : W1.cell? ⟨wr.heap.size, 1, none⟩ = some (.int .i64 (tsm : Int)) := by simp [World.cell?, HS1.out.tok]
      clear hW1 hB1 x0 x1 x2
      by_cases h0 : tsm = 0
      · subst h0
        have HP := HE.out.bput HS1.out HN.out.2.2.2.1 tb (by have := HN.out.1; omega) (tb : Int) rfl (by have := HLn.out; have := HN.out.2.2.2.2.2.2.1; rw [List.length_append]; omega)
        go_wp2_with fail
        refine HP.mono ?_
        clear HP
        rintro e w7 ⟨rfl, v7, h7⟩
        have H7 := Aside0.mk h7
        clear h7
        go_wp2_with fail
        go_roundw
        case rel =>
          refine ⟨q + 1, v7, by go_num, by omega, ⟨?_, H7.out.fr⟩⟩
          have e : ts.take (q + 1) = ts.take q ++ [⟨tb, 0, tf⟩] := by rw [List.take_add_one, HT.out.1]; rfl
          rw [e, List.flatMap_append, List.flatMap_singleton, ← List.append_assoc, tokBits, if_pos rfl]
          exact H7.out.row
        case measure => simp [intOf]; omega
      · obtain ⟨hs3, hs258, hf1, hf3⟩ := HT.out.2.same.resolve_left h0
        simp only at hs3 hs258 hf1 hf3
        have h0' : ((tsm : Int) == 0) = false := by simp; omega
        have hfS := Rq.same_fits tsm (by omega) hs3
        have hfF := Rq.far_fits tf hf1 hf3
        have hsl := Rq.symS_lt tsm
        have hfl := Rq.symF_lt tf
        obtain ⟨s, hsd⟩ : ∃ s, s = symS tsm := ⟨_, rfl⟩
        obtain ⟨f, hfd⟩ : ∃ f, f = symF tf := ⟨_, rfl⟩
        rw [← hsd] at hfS hsl
        rw [← hfd] at hfF hfl
        have hbS := Rq.bitsS'_le s hsl
        have hbF := Rq.bitsF_le f hfl
        have HSF := Aside0.mk (And.intro hsd (And.intro hfd (And.intro hfS hfF)))
        have HSy := symS_calls (w := W1) (A := A12) (c := c12) tsm (tsm : Int) rfl (HE.out.r12.at_ HS1.out.fr) (by rw [samesM_len]; exact HB.out.2.2.1)
        rw [samesM_len, ← hsd] at HSy
        have HSy2 := Aside0.mk HSy
        have htb : (bs ++ (ts.take q).flatMap (tokBits lit far)).length ≤ 880000 := by have := HLn.out; have := HN.out.2.2.2.2.2.2.1; rw [List.length_append]; omega
        have HTB := Aside0.mk htb
        clear hsd hfd hfS hfF HSy htb h0
        go_wp2_with fail
        refine HSy2.out.mono ?_
        clear HSy2
        rintro e w7 ⟨rfl, hB7⟩
        have HS7 := Aside0.mk (HS1.out.below hB7)
        clear hB7 p0 p1
        have HP7 := Aside0.mk (HE.out.bput HS7.out HN.out.2.2.2.1 (257 + s) (by have := HN.out.1; omega) (257 + (s : Int)) (by omega) (by have := HTB.out; omega))
        go_wp2_with fail
        refine HP7.out.mono ?_
        clear HP7
        rintro e w8 ⟨rfl, v8', h8⟩
        have HS8 := Aside0.mk h8
        clear h8
        have q4 := HE.out.cell4 HS8.out.fr
        have q1 : w8.cell? ⟨wr.heap.size, 1, none⟩ = some (.int .i64 (tsm : Int)) := by simp [World.cell?, HS8.out.tok]
        obtain ⟨ad12, hA12, z0, z1⟩ := at_T123 (HE.out.r12.at_ HS8.out.fr) (s : Int) (by omega) (by rw [samesM_len]; omega)
        cases hA12
        rw [Int.toNat_natCast, sames_at s hsl] at z0 z1
        simp only at z0 z1
        obtain ⟨fs, hfs⟩ : ∃ fs, fs = fromS' s := ⟨_, rfl⟩
        obtain ⟨bb, hbb⟩ : ∃ bb, bb = bitsS' s := ⟨_, rfl⟩
        rw [← hfs] at z0
        rw [← hbb] at z1 hbS
        have hfs2 : fs ≤ tsm := by rw [hfs]; exact HSF.out.2.2.1.1
        have hwr : IntKind.i64.wrap ((tsm : Int) - (fs : Int)) = (tsm : Int) - (fs : Int) := IntWalk.i64_in _ (by omega)
        have hs29 : (s : Int) < 29 := by omega
        have HX8 := Aside0.mk (And.intro hfs hbb)
        clear hfs hbb
        go_upto_region 12 with fail
        go_still_tail 14, (by kernel_rfl)
        clear hwr
        go_wp2_with fail
        have HQ9 := put_calls (w := w8.drew) HS8.out.row.drew HS8.out.ge (tsm - fs) bb ((tsm : Int) - (fs : Int)) (bb : Int) (by omega) rfl (by omega) (by omega) (by have := HTB.out; rw [List.length_append, symBits, Rq.codeBits_length]; have := Rq.getD_le15 lit HN.out.2.2.2.1.le (257 + s); omega)
        refine HQ9.mono ?_
        clear HQ9
        rintro e w9 ⟨rfl, v9, hrow9, hfr9⟩
        have HS9 := Aside0.mk (HS8.out.drew.step hfr9 hrow9)
        clear hrow9 hfr9 z0 z1 q4 q1
        have q2 : w9.cell? ⟨wr.heap.size, 2, none⟩ = some (.int .i64 (tf : Int)) := by simp [World.cell?, HS9.out.tok]
        have HFy := symF_calls (w := w9) (A := A13) (c := c13) tf (tf : Int) rfl (HE.out.r13.at_ HS9.out.fr) (by rw [farsM_len]; exact HB.out.2.2.2)
        rw [farsM_len, ← HSF.out.2.1] at HFy
        have HFy2 := Aside0.mk HFy
        clear HFy
        go_wp2_with fail
        refine HFy2.out.mono ?_
        clear HFy2
        rintro e w10 ⟨rfl, hB10⟩
        have HS10 := Aside0.mk (HS9.out.below hB10)
        clear hB10 q2
        have q4 := HE.out.cell4 HS10.out.fr
        obtain ⟨adc, hAc, hcc⟩ := Kd.at_int (HE.out.r10.at_ HS10.out.fr) (f : Int) (by omega) (by have := HN.out.2.1; omega)
        cases hAc
        obtain ⟨ads, hAs, hcs⟩ := Kd.at_int (HE.out.r3.at_ HS10.out.fr) (f : Int) (by omega) (by have := HN.out.2.1; omega)
        cases hAs
        rw [rd_nn, Int.toNat_natCast] at hcc hcs
        have hcm := codesM_at far HN.out.2.2.2.2.1 f (by have := HN.out.2.1; omega)
        rw [hcm.1] at hcc
        have hl15 : far.getD f 0 ≤ 15 := Rq.getD_le far 15 f HN.out.2.2.2.2.1.le
        obtain ⟨co, hco⟩ : ∃ co, co = codeOf far f := ⟨_, rfl⟩
        obtain ⟨si, hsi⟩ : ∃ si, si = far.getD f 0 := ⟨_, rfl⟩
        rw [← hco] at hcc hcm
        rw [← hsi] at hcs hl15
        have hco2 := hcm.2
        have hfm : (f : Int) < m2 := by omega
        have HCS := Aside0.mk (And.intro hco hsi)
        clear hco hsi hcm
        go_upto_region 14 with fail
        go_still_tail 9, (by kernel_rfl)
        go_wp2_with fail
        have HQ11 := code_calls (w := w10.drew) HS10.out.row.drew HS10.out.ge co si (co : Int) (si : Int) rfl rfl (by omega) (by omega) (by have := HTB.out; rw [List.length_append, List.length_append, symBits, Rq.codeBits_length, Rq.bitsOf_length]; have := Rq.getD_le15 lit HN.out.2.2.2.1.le (257 + s); omega)
        refine HQ11.mono ?_
        clear HQ11
        rintro e w11 ⟨rfl, v11, hrow11, hfr11⟩
        have HS11 := Aside0.mk (HS10.out.drew.step hfr11 hrow11)
        clear hrow11 hfr11 q4 hcc hcs
        have q4 := HE.out.cell4 HS11.out.fr
        have q2 : w11.cell? ⟨wr.heap.size, 2, none⟩ = some (.int .i64 (tf : Int)) := by simp [World.cell?, HS11.out.tok]
        obtain ⟨ad13, hA13, z0, z1⟩ := at_T123 (HE.out.r13.at_ HS11.out.fr) (f : Int) (by omega) (by rw [farsM_len]; omega)
        cases hA13
        rw [Int.toNat_natCast, fars_at f hfl] at z0 z1
        simp only at z0 z1
        obtain ⟨ff, hff⟩ : ∃ ff, ff = fromF f := ⟨_, rfl⟩
        obtain ⟨fb, hfb⟩ : ∃ fb, fb = bitsF f := ⟨_, rfl⟩
        rw [← hff] at z0
        rw [← hfb] at z1 hbF
        have hff2 : ff ≤ tf := by rw [hff]; exact HSF.out.2.2.2.1
        have hwr : IntKind.i64.wrap ((tf : Int) - (ff : Int)) = (tf : Int) - (ff : Int) := IntWalk.i64_in _ (by omega)
        have hf30 : (f : Int) < 30 := by omega
        have HX11 := Aside0.mk (And.intro hff hfb)
        clear hff hfb
        go_upto_region 15 with fail
        go_still_tail 14, (by kernel_rfl)
        clear hwr
        go_wp2_with fail
        have HQ12 := put_calls (w := w11.drew) HS11.out.row.drew HS11.out.ge (tf - ff) fb ((tf : Int) - (ff : Int)) (fb : Int) (by omega) rfl (by omega) (by omega) (by have := HTB.out; rw [List.length_append, List.length_append, List.length_append, symBits, Rq.codeBits_length, Rq.codeBits_length, Rq.bitsOf_length]; have := Rq.getD_le15 lit HN.out.2.2.2.1.le (257 + s); omega)
        refine HQ12.mono ?_
        clear HQ12
        rintro e w12 ⟨rfl, v12, hrow12, hfr12⟩
        have HS12 := Aside0.mk (HS11.out.drew.step hfr12 hrow12)
        clear hrow12 hfr12 z0 z1 q4 q2
        go_wp2_with fail
        go_roundw
        case rel =>
          refine ⟨q + 1, v12, by go_num, by omega, ⟨?_, HS12.out.fr⟩⟩
          have e : ts.take (q + 1) = ts.take q ++ [⟨tb, tsm, tf⟩] := by rw [List.take_add_one, HT.out.1]; rfl
          have e2 : tokBits lit far ⟨tb, tsm, tf⟩ = symBits lit (257 + s) ++ (Rq.bitsOf (tsm - fs) bb ++ (Rq.codeBits co si ++ Rq.bitsOf (tf - ff) fb)) := by
            rw [tokBits, if_neg (by simp only; omega), HX8.out.1, HX8.out.2, HX11.out.1, HX11.out.2, HCS.out.1, HCS.out.2, HSF.out.1, HSF.out.2.1]; rfl
          rw [e, List.flatMap_append, List.flatMap_singleton, e2]
          have := HS12.out.row
          simp only [List.append_assoc] at this ⊢
          exact this
        case measure => simp [intOf]; omega
    · have k1 : ¬ (q : Int) < nt := by omega
      obtain rfl : q = nt := by omega
      have htk : ts.take q = ts := List.take_of_length_le (by have := HN.out.2.2.1; omega)
      have HR2 := Aside0.mk HR.out
      rw [htk] at HR2
      have hlq : (ts.flatMap (tokBits lit far)).length ≤ 180000 := by have := HLn.out; rw [htk] at this; exact this
      have HP := Aside0.mk (bput_calls (b6 := w.heap.size + 1) (b8 := w2.heap.size) (c6 := c2) (c8 := c8) HR2.out.1 (Nat.le_trans HB.out.2.1 HR2.out.2.size) (HE.out.cell4 HR2.out.2) (by simp [World.cell?, HR2.out.2.blk HE.out.k8 (by decide)]) (by simp [World.cell?, HR2.out.2.blk HE.out.k6 (by decide)]) (HE.out.r8.at_ HR2.out.2) (HE.out.r6.at_ HR2.out.2) HN.out.2.2.2.1 256 (by have := HN.out.1; omega) 256 rfl (by have := HN.out.2.2.2.2.2.2.1; rw [List.length_append]; omega))
      clear htk hlq
      go_wp2_with fail
      refine HP.out.mono ?_
      clear HP
      rintro e w7 ⟨rfl, v7, hrow7, hfr7⟩
      have H7 := Aside0.mk (And.intro hrow7 hfr7)
      clear hrow7 hfr7
      go_wp2_with fail
      go_end0
      refine ⟨rfl, v7, ?_, (FrT.of_below HB.out.1 base _).trans (HR2.out.2.trans H7.out.2)⟩
      have := H7.out.1
      rw [List.append_assoc] at this
      exact this
end Go.Proofs.Ythfkjejjndgajaa
