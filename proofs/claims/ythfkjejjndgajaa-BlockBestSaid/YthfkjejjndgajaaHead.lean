/- The head of a block whose codes are told (block.head). -/
import Derived.Test.YthfkjejjndgajaaMCode
import Derived.Test.YthfkjejjndgajaaMLens
import Derived.Test.YthfkjejjndgajaaMRow
import Derived.Test.YthfkjejjndgajaaMBase
import Derived.Deep.CutRange
import Derived.Laws.Rows
namespace Go.Proofs.Ythfkjejjndgajaa
open Go.RowKit Go.Proofs.YthfkjejjndgajaaW.PrintWords Go.Proofs.Ythfkjejjndgajaa.Pruns
open Rq (Right Run bitsOf headL headF headR headS headT runBits headBits runCounts codesM codeOf trimM trimLen bump)

theorem IsRow.below {w w1 : World} {g base : Nat} {v : Value} {bs : List Bool} (h : IsRow w g base v bs) (hb : Below w.heap.size w w1) : IsRow w1 g base v bs := ⟨h.ge, blk_below h.blk hb, Kd.R_below h.own hb⟩
/-- Trimmed rows read as such. -/
theorem C_trim {w : World} {A : Option Addr} {l : List Nat} (hr : Kd.C (Kd.int .i64) w A l.length (nn l)) (least : Nat) : Kd.C (Kd.int .i64) w A (trimM l least).length (nn (trimM l least)) := by
  have h := Kd.C_take (m := (trimM l least).length) (xs := nn l) (by rw [nn_length]; exact hr) (by rw [nn_length]; exact Rq.trimM_le l least)
  have e : (nn l).take (trimM l least).length = nn (trimM l least) := by rw [← nn_take, Rq.trimM_len]; rfl
  rw [e, nn_length] at h
  exact h
theorem trim_calls' {A : Option Addr} {c : Nat} {l : List Nat} {w : World} (hr : Kd.C (Kd.int .i64) w A l.length (nn l)) (hc : l.length ≤ c) (least : Nat) (z : Int) (hz : z = least) (hl : l.length ≤ 1000000) (hl1 : least ≤ 1000000) :
    Calls Try.prog 63 #[.slice A l.length c, .int .i64 z] w fun e w' => e = .returned (.slice A (trimM l least).length c) ∧ w = w' := by
  have h := trimmed_calls hr hc least z hz hl hl1
  rw [← Rq.trimM_len] at h
  exact h
theorem run_at {w : World} {A : Option Addr} {n : Nat} {rs : List Run} (h : Kd.C k114 w A n (rs.map toRun)) (i : Nat) (hi : i < n) : ∃ (x : Run) (ad : Addr), rs[i]? = some x ∧ A = some ad ∧ w.cell? (ad.add (i * 3)) = some (.int .i64 (x.sym : Int)) ∧
    w.cell? ⟨(ad.add (i * 3)).block, (ad.add (i * 3)).off + 1, none⟩ = some (.int .i64 (x.add : Int)) ∧ w.cell? ⟨(ad.add (i * 3)).block, (ad.add (i * 3)).off + 2, none⟩ = some (.int .i64 (x.bits : Int)) := by
  have hl : i < rs.length := by have := h.1; rw [List.length_map] at this; omega
  obtain ⟨ad, e, h0, h1, h2⟩ := at_T114 h (i : Int) (by omega) (by omega)
  rw [Int.toNat_natCast] at h0 h1 h2
  have e2 : rd_T114 (rs.map toRun) (i : Int) = toRun rs[i] := by
    unfold rd_T114
    rw [Int.toNat_natCast, List.getD_eq_getElem?_getD, List.getElem?_map, List.getElem?_eq_getElem hl]; rfl
  rw [e2] at h0 h1 h2
  exact ⟨rs[i], ad, List.getElem?_eq_getElem hl, e, h0, h1, h2⟩
theorem take_getD (l : List Nat) (q : Nat) (h : q < l.length) : l.take (q + 1) = l.take q ++ [l.getD q 0] := by
  rw [List.take_succ_eq_append_getElem h, List.getD_eq_getElem?_getD, List.getElem?_eq_getElem h]; rfl
theorem codesM_at (l : List Nat) (hR : Right l) (i : Nat) (hi : i < l.length) : (codesM l).getD i 0 = codeOf l i ∧ codeOf l i ≤ 65535 := by
  refine ⟨?_, ?_⟩
  · unfold codesM
    rw [List.getD_eq_getElem?_getD, List.getElem?_map, List.getElem?_range hi]; rfl
  · rcases Nat.eq_zero_or_pos (l.getD i 0) with h | h
    · rw [codeOf, if_pos h]; decide
    · have h1 := Rq.codeOf_lt l hR i hi h
      have h2 : l.getD i 0 ≤ 15 := Rq.getD_le l 15 i hR.le
      have h3 : 2 ^ l.getD i 0 ≤ 2 ^ 15 := Nat.pow_le_pow_right (by decide) h2
      omega
/-- So far counted. -/
def runTo (rs : List Run) (k : Nat) : List Nat := (rs.take k).foldl (fun m x => bump m x.sym) (List.replicate 19 0)
theorem runTo_succ (rs : List Run) (k : Nat) (x : Run) (h : rs[k]? = some x) : runTo rs (k + 1) = bump (runTo rs k) x.sym := by
  unfold runTo
  rw [List.take_add_one, h, Option.toList_some, List.foldl_append]; rfl
theorem runTo_end (rs : List Run) : runTo rs rs.length = runCounts rs := by unfold runTo runCounts; rw [List.take_length]
theorem runTo_le (rs : List Run) (k : Nat) : ∀ x ∈ runTo rs k, x ≤ rs.length := fun x hx => by
  have := Rq.runCounts_le (rs.take k) x hx
  rw [List.length_take] at this; omega
theorem order_index : ∀ k : Nat, k < 19 → ∀ W : World, (Instr.index 115 (.agg (ints orderM).toArray) (.int .i64 (k : Int))).run Try.prog W = .ok (.int .i64 ((orderM.getD k 0 : Nat) : Int)) W := by
  intro k hk W
  have h : k = 0 ∨ k = 1 ∨ k = 2 ∨ k = 3 ∨ k = 4 ∨ k = 5 ∨ k = 6 ∨ k = 7 ∨ k = 8 ∨ k = 9 ∨ k = 10 ∨ k = 11 ∨ k = 12 ∨ k = 13 ∨ k = 14 ∨ k = 15 ∨ k = 16 ∨ k = 17 ∨ k = 18 := by omega
  rcases h with rfl | rfl | rfl | rfl | rfl | rfl | rfl | rfl | rfl | rfl | rfl | rfl | rfl | rfl | rfl | rfl | rfl | rfl | rfl <;> simp [Instr.index, run_underlying Try.underlying115, asIntOf, ints, orderM, go_sem]

def zeros19 : Array Value := #[.int .i64 0, .int .i64 0, .int .i64 0, .int .i64 0, .int .i64 0, .int .i64 0, .int .i64 0, .int .i64 0, .int .i64 0, .int .i64 0, .int .i64 0, .int .i64 0, .int .i64 0, .int .i64 0, .int .i64 0, .int .i64 0, .int .i64 0, .int .i64 0, .int .i64 0]
theorem order_store (W : World) : (storeCells ⟨W.heap.size, 0, none⟩ (ints orderM)).run Try.prog (W.alloc (.cells zeros19 115)) = .ok () (W.alloc (.cells (ints orderM).toArray 115)) := by
  have h := run_storeCells_from (P := Try.prog) W.heap.size 115 (ints orderM) 0 zeros19 (W.alloc (.cells zeros19 115)) (heap_alloc_new W _) rfl (fun v hv => (Array.all_eq_true_iff_forall_mem.1 orderOne) v (by simpa using hv))
  rw [setRow_alloc_new] at h
  exact h

set_option maxHeartbeats 2000000 in
set_option maxRecDepth 100000 in
theorem head_calls {w : World} {g base : Nat} {v : Value} {bs : List Bool} (h : IsRow w g base v bs) (hb : base ≤ w.heap.size) {A1 A2 : Option Addr} {c1 c2 : Nat} {lit far : List Nat}
    (h1 : Kd.C (Kd.int .i64) w A1 lit.length (nn lit)) (hc1 : lit.length ≤ c1) (h2 : Kd.C (Kd.int .i64) w A2 far.length (nn far)) (hc2 : far.length ≤ c2)
    (hl1 : lit.length = 286) (hl2 : far.length = 30) (hR1 : Right lit) (hR2 : Right far) (hbs : bs.length ≤ 900000) :
    Calls Try.prog 39 #[.pointer (some ⟨g, 0, none⟩), .slice A1 lit.length c1, .slice A2 far.length c2] w fun e w' => e = .returned (.tuple #[]) ∧
      ∃ v', IsRow w' g base v' (bs ++ headBits lit far) ∧ FrT base [5, 45] w w' := by
  have HT1 := Aside0.mk (trim_calls' (c := c1) h1 hc1 257 257 rfl (by omega) (by decide))
  have HT2 := Aside0.mk (trim_calls' (c := c2) h2 hc2 1 1 rfl (by omega) (by decide))
  have HC := Aside0.mk (And.intro (C_trim h1 257) (C_trim h2 1))
  have HI := Aside0.mk h
  have HM := Aside0.mk (And.intro hl1 hl2)
  have a1 : 257 ≤ (headL lit).length := Rq.trimM_ge lit 257 (by omega)
  have a2 : 1 ≤ (headF far).length := Rq.trimM_ge far 1 (by omega)
  have a3 := Rq.headL_le lit
  have a4 := Rq.headF_le far
  rw [hl1] at a3
  rw [hl2] at a4
  obtain ⟨n1, hn1⟩ : ∃ n1, n1 = (headL lit).length := ⟨_, rfl⟩
  obtain ⟨n2, hn2⟩ : ∃ n2, n2 = (headF far).length := ⟨_, rfl⟩
  obtain ⟨m1, hm1⟩ : ∃ m1, m1 = lit.length := ⟨_, rfl⟩
  obtain ⟨m2, hm2⟩ : ∃ m2, m2 = far.length := ⟨_, rfl⟩
  have e1 : (trimM lit 257).length = n1 := hn1.symm
  have e2 : (trimM far 1).length = n2 := hn2.symm
  rw [e1] at HT1 HC
  rw [e2] at HT2 HC
  rw [← hm1] at HT1 hl1 hc1 ⊢
  rw [← hm2] at HT2 hl2 hc2 ⊢
  rw [← hn1] at a1 a3
  rw [← hn2] at a2 a4
  have HN := Aside0.mk (And.intro hn1 (And.intro hn2 (And.intro hc1 (And.intro hc2 (And.intro hR1 (And.intro hR2 hbs))))))
  clear h1 h2 h hn1 hn2 hm1 hm2 e1 e2 hc1 hc2 hR1 hR2 hbs hl1 hl2
  go_enter Try.func39, Try.ntmps39
  go_wp2_with fail
  refine HT1.out.mono ?_
  rintro e w1 ⟨rfl, rfl⟩
  go_wp2_with fail
  refine HT2.out.mono ?_
  rintro e w1 ⟨rfl, rfl⟩
  clear HT1 HT2
  have hlA := Aside0.mk (And.intro (show (nn ([] : List Nat)).length = 0 from rfl) (show (nn (headL lit)).length ≤ 286 by rw [nn_length]; have := HN.out.1; omega))
  go_upto_region 1 with fail
  go_wp2_with (first
    | (at_builtin
       (refine Kd.R_append_rows (Kd.int .i64) (w0 := w) w.heap.size rfl (.tmp 27) (.tmp 28) 30 3 (.int .i64 0) 8 rfl Try.underlying30 info_int rfl (by decide) (by decide) _ [] (nn (headL lit)) A1 n1 c1 (fun _ => True) (fun _ => False) rfl rfl (R_empty _ _ w _ (Nat.le_refl _)) (HC.out.1.imp_ (below_alloc (Below.refl _ _) _) (fun _ _ h => h)) (fun x cs h => h) (fun _ h => h.elim) (fun _ _ => trivial) (below_alloc (Below.refl _ _) _) (below_alloc (Below.refl _ _) _).size (by show (0 + n1) * 8 ≤ _; omega) ?_)
       intro v1 w1 HO1 HB1 hg1 hat1
       rw [List.nil_append] at HO1
       have H1 := Aside0.mk (And.intro HO1 HB1)
       clear HO1 HB1 hg1 hat1)
    | (at_builtin
       (refine Kd.R_append_rows (Kd.int .i64) (w0 := w) w.heap.size rfl (.tmp 29) (.tmp 30) 30 3 (.int .i64 0) 8 rfl Try.underlying30 info_int rfl (by decide) (by decide) _ (nn (headL lit)) (nn (headF far)) A2 n2 c2 (fun _ => True) (fun _ => False) rfl rfl H1.out.1 (Kd.C_below HC.out.2 H1.out.2) (fun x cs h => h) (fun _ h => h.elim) (fun _ _ => trivial) H1.out.2 H1.out.2.size (by have := hlA.out.2; show ((nn (headL lit)).length + n2) * 8 ≤ _; omega) ?_)
       intro v2 w2 HO2 HB2 hg2 hat2
       rw [← nn_append] at HO2
       have H2 := Aside0.mk (And.intro HO2 HB2)
       clear HO2 HB2 hg2 hat2))
  clear H1 hlA HC
  obtain ⟨A3, c3, rfl⟩ := Kd.R_slice H2.out.1
  have hall : ∀ x ∈ headL lit ++ headF far, x ≤ 15 := fun x hx => by
    rcases List.mem_append.1 hx with h | h
    · exact HN.out.2.2.2.2.1.le x (Rq.trimM_mem _ _ x h)
    · exact HN.out.2.2.2.2.2.1.le x (Rq.trimM_mem _ _ x h)
  obtain ⟨n3, hn3⟩ : ∃ n3, n3 = (nn (headL lit ++ headF far)).length := ⟨_, rfl⟩
  have hn3' : n3 = n1 + n2 := by rw [hn3, nn_length, List.length_append]; have := HN.out.1; have := HN.out.2.1; omega
  have hRd := Kd.R_reads' H2.out.1
  rw [← hn3] at hRd ⊢
  have HRu := Aside0.mk (runs_calls (w := w2) (A := A3) (n := n3) (c := c3) (l := headL lit ++ headF far) hRd.2.2 hRd.2.1 (by omega) (fun x hx => by have := hall x hx; omega))
  clear hRd hn3
  refine HRu.out.mono ?_
  rintro e w3 ⟨v3, rfl, hR3, hB3⟩
  have H3 := Aside0.mk (show Kd.R k114 114 w3 w.heap.size (fun _ => True) v3 ((headR lit far).map toRun) ∧ Below w.heap.size w w3 from ⟨Kd.R_lower hR3 H2.out.2.size, H2.out.2.trans (hB3.mono H2.out.2.size)⟩)
  have hok := Rq.headR_ok lit far HN.out.2.2.2.2.1.le HN.out.2.2.2.2.2.1.le
  have hrl : (headR lit far).length ≤ 316 := by
    have h1 := Rq.headR_len lit far
    have := HM.out; omega
  have HK := Aside0.mk (And.intro hok hrl)
  obtain ⟨A4, c4, rfl⟩ := Kd.R_slice H3.out.1
  obtain ⟨n4, hn4⟩ : ∃ n4, n4 = ((headR lit far).map toRun).length := ⟨_, rfl⟩
  have hn4' : n4 = (headR lit far).length := by rw [hn4, List.length_map]
  rw [← hn4] at H3 ⊢
  have H4 := Aside0.mk (And.intro hn4 hn4')
  have hn316 : n4 ≤ 316 := by omega
  clear hR3 hB3 HRu H2 hall hn3' hn4 hn4' hok hrl
  have hmk := fun W => make_int W 19 19 rfl (by decide)
  go_wp2_with fail
  generalize hW4 : World.alloc _ _ = W4
  have HL0 : Aside0 (Kd.R (Kd.int .i64) 3 W4 w.heap.size (fun _ => True) (.slice (some ⟨w3.heap.size, 0, none⟩) 19 19) (nn (runTo (headR lit far) 0)) ∧ Kd.R k114 114 W4 w.heap.size (fun _ => True) (.slice A4 n4 c4) ((headR lit far).map toRun) ∧ Below w.heap.size w W4) := ⟨by
    rw [← hW4]
    exact ⟨Kd.R_mono (R_mk0 w3 19 _ H3.out.2.size (by decide)) (fun _ _ => trivial), Kd.R_alloc H3.out.1 _, (H3.out.2.alloc H3.out.2.size _)⟩⟩
  clear hW4 hmk
  go_loopw [37] (fun vk wr => ∃ k : Nat, vk = .int .i64 k ∧ k ≤ n4 ∧ Aside0 (Kd.R (Kd.int .i64) 3 wr w.heap.size (fun _ => True) (.slice (some ⟨w3.heap.size, 0, none⟩) 19 19) (nn (runTo (headR lit far) k)) ∧ Kd.R k114 114 wr w.heap.size (fun _ => True) (.slice A4 n4 c4) ((headR lit far).map toRun) ∧ Below w.heap.size w wr)) (fun vk _ => n4 - (intOf vk).toNat)
  case atStart => exact ⟨0, rfl, Nat.zero_le _, HL0⟩
  case round =>
    obtain ⟨k, rfl, hk, HR⟩ := hrel
    by_cases hlt : k < n4
    · have hCr := (Kd.R_reads' HR.out.2.1).2.2
      rw [← H4.out.1] at hCr
      obtain ⟨x, ad, hx, hA, x0, x1, x2⟩ := run_at hCr k hlt
      clear hCr
      cases hA
      have hxo := HK.out.1 x (List.mem_of_getElem? hx)
      have hs18 := hxo.sym
      have ha127 := hxo.add
      have hb7 := hxo.bits
      have HX := Aside0.mk hx
      obtain ⟨xs, xa, xb⟩ := x
      simp only at x0 x1 x2 hs18 ha127 hb7
      obtain ⟨y0, y1⟩ := bump_cells HR.out.1 xs (by omega)
      obtain ⟨y, hy⟩ : ∃ y, y = (runTo (headR lit far) k).getD xs 0 := ⟨_, rfl⟩
      have hy3 : y ≤ 316 := by
        have h1 := Rq.getD_le _ _ xs (runTo_le (headR lit far) k)
        have := HK.out.2
        omega
      rw [← hy] at y0
      have HY := Aside0.mk hy
      have k1 : (k : Int) < n4 := by omega
      have hlt9 := Kd.R_lt HR.out.1 w3.heap.size rfl
      clear hy hx hxo
      go_wp2_with fail
      go_roundw
      case rel =>
        have hbb := Kd.R_base HR.out.1 w3.heap.size rfl
        obtain ⟨cells9, hb9⟩ := Kd.R_typed HR.out.1 w3.heap.size rfl
        refine ⟨k + 1, by go_num, by omega, ⟨?_, Kd.R_alloc (Kd.R_set HR.out.2.1 hb9 (by simp [k114, Kd.iso, Kd.pair, Kd.int, Kd.scalar]) xs _) _, below_alloc (HR.out.2.2.setCell (p := ⟨w3.heap.size, xs, none⟩) hbb _) _⟩⟩
        rw [runTo_succ _ _ _ HX.out]
        exact Kd.R_alloc (R_bump HR.out.1 xs y HY.out) _
      case measure => simp [intOf]; omega
    · have k1 : ¬ (k : Int) < n4 := by omega
      obtain rfl : k = n4 := by omega
      have hEnd : runTo (headR lit far) k = runCounts (headR lit far) := by rw [H4.out.2, runTo_end]
      have HR2 := Aside0.mk HR.out
      rw [hEnd] at HR2
      clear hEnd HR HL0
      have hrl := HK.out.2
      have hC5 := (Kd.R_reads' HR2.out.1).2.2
      rw [nn_length, Rq.runCounts_len] at hC5
      have HL7 := Aside0.mk (lengths_calls (w := wr) (c := 19) hC5 (by decide) (fun x hx => by have := Rq.runCounts_le _ x hx; omega) 7 7 rfl (by decide) (by decide) (by have := used_le (runCounts (headR lit far)); rw [Rq.runCounts_len] at this; omega))
      clear hC5 hrl
      go_wp2_with fail
      refine HL7.out.mono ?_
      rintro e w5 ⟨v5, rfl, hR5, hB5⟩
      clear HL7
      have hb9 := HR2.out.2.2
      have H5 := Aside0.mk (show Kd.R (Kd.int .i64) 3 w5 w.heap.size (fun _ => True) v5 (nn (headS lit far)) ∧ Kd.R k114 114 w5 w.heap.size (fun _ => True) (.slice A4 k c4) ((headR lit far).map toRun) ∧ Below w.heap.size w w5 from ⟨Kd.R_lower hR5 hb9.size, Kd.R_below HR2.out.2.1 hB5, hb9.trans (hB5.mono hb9.size)⟩)
      obtain ⟨A5, c5, rfl⟩ := Kd.R_slice H5.out.1
      rw [nn_length, Rq.headS_len] at H5 ⊢
      clear hR5 hB5 hb9 HR2
      go_wp2_with fail
      refine (order_calls w5).mono ?_
      rintro e w6 ⟨rfl, hB6⟩
      have H6 := Aside0.mk (show Kd.R (Kd.int .i64) 3 w6 w.heap.size (fun _ => True) (.slice A5 19 c5) (nn (headS lit far)) ∧ Kd.R k114 114 w6 w.heap.size (fun _ => True) (.slice A4 k c4) ((headR lit far).map toRun) ∧ Below w.heap.size w w6 from ⟨Kd.R_below H5.out.1 hB6, Kd.R_below H5.out.2.1 hB6, H5.out.2.2.trans (hB6.mono H5.out.2.2.size)⟩)
      clear hB6 H5
      have hst := order_store w6
      unfold zeros19 at hst
      go_upto_region 12 with fail
      clear hst
      generalize hW7 : World.alloc _ _ = W7
      have hg7 : W7.heap[w6.heap.size]? = some (.cells (ints orderM).toArray 115 (0, 0)) := by rw [← hW7]; exact heap_alloc_new w6 _
      have HG := Aside0.mk hg7
      have hB7 : Below w6.heap.size w6 W7 := by rw [← hW7]; exact below_alloc (Below.refl _ _) _
      have H7 := Aside0.mk (show Kd.R (Kd.int .i64) 3 W7 w.heap.size (fun _ => True) (.slice A5 19 c5) (nn (headS lit far)) ∧ Kd.R k114 114 W7 w.heap.size (fun _ => True) (.slice A4 k c4) ((headR lit far).map toRun) ∧ Below w.heap.size w W7 from ⟨Kd.R_below H6.out.1 hB7, Kd.R_below H6.out.2.1 hB7, H6.out.2.2.trans (hB7.mono H6.out.2.2.size)⟩)
      clear hg7 hW7 hB7 H6
      go_wp2_with (refine wpList_load_row rfl 115 (.tmp 13) rfl w6.heap.size rfl 115 (ints orderM).toArray (0, 0) _ HG.out Try.underlying115 rfl orderInfo ?_)
      have HoI := order_index
      have HO := Aside0.mk HoI
      clear HoI
      go_loopw [14, 56] (fun v14 vk wr => ∃ q : Nat, vk = .int .i64 q ∧ q ≤ 19 ∧ Aside0 (Kd.R (Kd.int .i64) 3 wr W7.heap.size (fun _ => True) v14 (nn ((orderM.take q).map fun j => (headS lit far).getD j 0)) ∧ Below W7.heap.size W7 wr)) (fun _ vk _ => 19 - (intOf vk).toNat)
      case atStart => exact ⟨0, rfl, Nat.zero_le _, ⟨Kd.R_nil _ _ _ _ _, Below.refl _ _⟩⟩
      case round =>
        obtain ⟨q, rfl, hq, HR⟩ := hrel
        by_cases hlt : q < 19
        · have x1 : (q : Int) < 19 := by omega
          have hix := HO.out q hlt
          have ho19 : orderM.getD q 0 < 19 := by
            have hl : q < orderM.length := hlt
            rw [List.getD_eq_getElem?_getD, List.getElem?_eq_getElem hl]
            exact Rq.orderM_lt _ (List.getElem_mem hl)
          obtain ⟨o, ho⟩ : ∃ o, o = orderM.getD q 0 := ⟨_, rfl⟩
          rw [← ho] at hix ho19
          obtain ⟨ad5, hA5, hcell⟩ := Kd.at_int (Kd.C_below (Kd.R_reads' H7.out.1).2.2 HR.out.2) (o : Int) (by omega) (by rw [nn_length, Rq.headS_len]; omega)
          cases hA5
          rw [rd_nn, Int.toNat_natCast] at hcell
          obtain ⟨y, hy⟩ : ∃ y, y = (headS lit far).getD o 0 := ⟨_, rfl⟩
          rw [← hy] at hcell
          have HQ := Aside0.mk (And.intro ho hy)
          have hlq := Aside0.mk (show ((nn ((orderM.take q).map fun j => (headS lit far).getD j 0)).length + 1) * 8 ≤ 140737488355328 by rw [nn_length, List.length_map, List.length_take]; omega)
          clear ho hy
          go_wp2_with (first
            | (at_builtin
               go_must (refine Kd.R_append (Kd.int .i64) (w0 := W7) W7.heap.size rfl (.tmp 59) (.tmp 64) 30 3 (.int .i64 0) 8 rfl Try.underlying30 info_int rfl (by decide) (by decide) _ (nn ((orderM.take q).map fun j => (headS lit far).getD j 0)) (y : Int) [.int .i64 (y : Int)] (fun _ => True) (fun _ => False) rfl rfl rfl (fun _ h => h.elim) (fun _ _ => trivial) HR.out.1 HR.out.2 HR.out.2.size hlq.out ?_)
               intro v8 w8 HO8 HB8 hg8 hat8
               have H8 := Aside0.mk (And.intro HO8 HB8)
               clear HO8 HB8 hg8 hat8))
          go_roundw
          case rel =>
            refine ⟨q + 1, by go_num, by omega, ⟨?_, H8.out.2⟩⟩
            · have e : orderM.take (q + 1) = orderM.take q ++ [o] := by
                have hl : q < orderM.length := hlt
                rw [List.take_succ_eq_append_getElem hl, HQ.out.1, List.getD_eq_getElem?_getD, List.getElem?_eq_getElem hl]; rfl
              rw [e, List.map_append, nn_append]
              have := H8.out.1
              rw [HQ.out.2] at this
              exact this
          case measure => simp [intOf]; omega
        · have x1 : ¬ (q : Int) < 19 := by omega
          obtain rfl : q = 19 := by omega
          obtain ⟨A8, c8, rfl⟩ := Kd.R_slice HR.out.1
          have hr8 := Kd.R_reads' HR.out.1
          have e8 : ((orderM.take 19).map fun j => (headS lit far).getD j 0) = Rq.orderM.map fun j => (headS lit far).getD j 0 := rfl
          have hl8 : (Rq.orderM.map fun j => (headS lit far).getD j 0).length = 19 := by rw [List.length_map]; rfl
          rw [e8] at hr8 ⊢
          rw [nn_length] at hr8 ⊢
          have HT8 := Aside0.mk (And.intro (trim_calls' (w := wr) (A := A8) (c := c8) (l := Rq.orderM.map fun j => (headS lit far).getD j 0) hr8.2.2 hr8.2.1 4 4 rfl (by omega) (by decide)) (C_trim hr8.2.2 4))
          have eT : (trimM (Rq.orderM.map fun j => (headS lit far).getD j 0) 4) = headT lit far := rfl
          rw [eT] at HT8
          obtain ⟨n8, hn8⟩ : ∃ n8, n8 = (headT lit far).length := ⟨_, rfl⟩
          have b1 := Rq.headT_le lit far
          have b2 := Rq.headT_ge lit far
          rw [← hn8] at HT8 b1 b2
          have H8 := Aside0.mk (And.intro hn8 (And.intro HT8.out.2 (And.intro HR.out.2 (And.intro (H7.out.2.2.trans (HR.out.2.mono H7.out.2.2.size)) hl8))))
          rw [hl8] at HT8 ⊢
          clear e8 hl8 hr8 eT hn8
          go_wp2_with fail
          refine HT8.out.1.mono ?_
          rintro e w9 ⟨rfl, rfl⟩
          clear HT8
          have HI9 := Aside0.mk (HI.out.below H8.out.2.2.2.1)
          have hb9 : base ≤ wr.heap.size := Nat.le_trans hb H8.out.2.2.2.1.size
          -- the three numbers ahead
          have HP1 := Aside0.mk (put_calls HI9.out hb9 (n1 - 257) 5 ((n1 : Int) - 257) 5 (by omega) rfl (by omega) (by decide) (by have := HN.out.2.2.2.2.2.2; omega))
          go_wp2_with fail
          refine HP1.out.mono ?_
          rintro e w10 ⟨rfl, v10, hrow10, hfr10⟩
          have H10 := Aside0.mk (And.intro hrow10 hfr10)
          have hb10 : base ≤ w10.heap.size := Nat.le_trans hb9 hfr10.size
          clear hrow10 hfr10 HP1
          have HP2 := Aside0.mk (put_calls H10.out.1 hb10 (n2 - 1) 5 ((n2 : Int) - 1) 5 (by omega) rfl (by omega) (by decide) (by have := HN.out.2.2.2.2.2.2; simp only [List.length_append, Rq.bitsOf_length]; omega))
          go_wp2_with fail
          refine HP2.out.mono ?_
          rintro e w11 ⟨rfl, v11, hrow11, hfr11⟩
          have H11 := Aside0.mk (And.intro hrow11 (H10.out.2.trans hfr11))
          have hb11 : base ≤ w11.heap.size := Nat.le_trans hb10 hfr11.size
          clear hrow11 hfr11 HP2
          have HP3 := Aside0.mk (put_calls H11.out.1 hb11 (n8 - 4) 4 ((n8 : Int) - 4) 4 (by omega) rfl (by omega) (by decide) (by have := HN.out.2.2.2.2.2.2; simp only [List.length_append, Rq.bitsOf_length]; omega))
          go_wp2_with fail
          refine HP3.out.mono ?_
          rintro e w12 ⟨rfl, v12, hrow12, hfr12⟩
          have H12 := Aside0.mk (And.intro hrow12 (H11.out.2.trans hfr12))
          clear hrow12 hfr12 HP3
          obtain ⟨wo, hwo⟩ : ∃ wo : World, wo = wr := ⟨_, rfl⟩
          have hR8 := HR.out.1
          have e8 : ((orderM.take 19).map fun j => (headS lit far).getD j 0) = Rq.orderM.map fun j => (headS lit far).getD j 0 := rfl
          rw [e8] at hR8
          have HRd := Aside0.mk (show Rd base [5, 45] wr (Kd.int .i64) A8 (nn (Rq.orderM.map fun j => (headS lit far).getD j 0)).length (nn (Rq.orderM.map fun j => (headS lit far).getD j 0)) ∧ Rd base [5, 45] wr (Kd.int .i64) A5 19 (nn (headS lit far)) ∧ Rd base [5, 45] wr k114 A4 k ((headR lit far).map toRun) from
            ⟨Rd.of_own hR8 (by simp [Kd.int, Kd.scalar]), Rd.of_own (Kd.R_below H7.out.1 HR.out.2) (by simp [Kd.int, Kd.scalar]), Rd.of_own (Kd.R_below H7.out.2.1 HR.out.2) (by simp [k114, Kd.iso, Kd.pair, Kd.int, Kd.scalar])⟩)
          have hc5 := (Kd.R_reads' H7.out.1).2.1
          have HB9 := Aside0.mk (And.intro hb9 (And.intro H8.out.2.2.2.1 hc5))
          obtain ⟨bs3, hbs3⟩ : ∃ bs3, bs3 = bs ++ Rq.bitsOf (n1 - 257) 5 ++ Rq.bitsOf (n2 - 1) 5 ++ Rq.bitsOf (n8 - 4) 4 := ⟨_, rfl⟩
          rw [← hbs3] at H12
          have hl3 : bs3.length ≤ 900014 := by rw [hbs3]; have := HN.out.2.2.2.2.2.2; simp only [List.length_append, Rq.bitsOf_length]; omega
          have HS3 := Aside0.mk (And.intro hbs3 hl3)
          rw [← hwo] at HRd H12 HB9 H8
          clear hR8 e8 hbs3 hl3 hwo H10 H11 HI9 H7 HG HO HR hc5 hb9 hb10 hb11
          go_wp2_with fail
          go_loopw [86] (fun vk wr => ∃ (q : Nat) (vr : Value), vk = .int .i64 q ∧ q ≤ n8 ∧ Aside0 (IsRow wr g base vr (bs3 ++ ((headT lit far).take q).flatMap fun n => Rq.bitsOf n 3) ∧ FrT base [5, 45] wo wr)) (fun vk _ => n8 - (intOf vk).toNat)
          case atStart => exact ⟨0, v12, rfl, Nat.zero_le _, ⟨by simpa using H12.out.1, H12.out.2⟩⟩
          case round =>
            obtain ⟨q, vr, rfl, hq, HR3⟩ := hrel
            by_cases hlt3 : q < n8
            · have x1 : (q : Int) < n8 := by omega
              have hC8 := C_trim ((by have := HRd.out.1.at_ HR3.out.2; rw [nn_length] at this; exact this) : Kd.C (Kd.int .i64) wr A8 (Rq.orderM.map fun j => (headS lit far).getD j 0).length (nn (Rq.orderM.map fun j => (headS lit far).getD j 0))) 4
              have eT : (trimM (Rq.orderM.map fun j => (headS lit far).getD j 0) 4) = headT lit far := rfl
              rw [eT, ← H8.out.1] at hC8
              obtain ⟨ad8, hA8, hcell⟩ := Kd.at_int hC8 (q : Int) (by omega) (by omega)
              cases hA8
              rw [rd_nn, Int.toNat_natCast] at hcell
              obtain ⟨y, hy⟩ : ∃ y, y = (headT lit far).getD q 0 := ⟨_, rfl⟩
              rw [← hy] at hcell
              have hyl : y ≤ 7 := by
                rw [hy]
                have h7 : ∀ z ∈ headT lit far, z ≤ 7 := fun z hz => by
                  obtain ⟨j, _, rfl⟩ := List.mem_map.1 (Rq.trimM_mem _ _ z hz)
                  exact Rq.getD_le _ 7 j (Rq.headS_le lit far)
                exact Rq.getD_le _ 7 q h7
              have hql : q < (headT lit far).length := by have := H8.out.1; omega
              have HQ := Aside0.mk (And.intro hy hql)
              have hlen : (((headT lit far).take q).flatMap fun n => Rq.bitsOf n 3).length ≤ 60 := by
                have h1 := Rq.flat_len (fun n => Rq.bitsOf n 3) 3 ((headT lit far).take q) (fun x _ => by rw [Rq.bitsOf_length]; exact Nat.le_refl _)
                rw [List.length_take] at h1; omega
              have HPq := Aside0.mk (put_calls HR3.out.1 (Nat.le_trans HB9.out.1 HR3.out.2.size) y 3 (y : Int) 3 rfl rfl (by omega) (by decide) (by have := HS3.out.2; rw [List.length_append]; omega))
              clear hC8 eT hy hql hlen
              go_wp2_with fail
              refine HPq.out.mono ?_
              rintro e w13 ⟨rfl, v13, hrow13, hfr13⟩
              have H13 := Aside0.mk (And.intro hrow13 (HR3.out.2.trans hfr13))
              clear hrow13 hfr13 HPq
              go_wp2_with fail
              go_roundw
              case rel =>
                refine ⟨q + 1, v13, by go_num, by omega, ⟨?_, H13.out.2⟩⟩
                have e : (headT lit far).take (q + 1) = (headT lit far).take q ++ [y] := by
                  have h1 := HQ.out.1
                  have h2 := take_getD (headT lit far) q HQ.out.2
                  rw [← h1] at h2; exact h2
                rw [e, List.flatMap_append, List.flatMap_singleton, ← List.append_assoc]
                exact H13.out.1
              case measure => simp [intOf]; omega
            · have x1 : ¬ (q : Int) < n8 := by omega
              obtain rfl : q = n8 := by omega
              have htk : (headT lit far).take q = headT lit far := List.take_of_length_le (by have := H8.out.1; omega)
              have HR4 := Aside0.mk HR3.out
              rw [htk] at HR4
              obtain ⟨bs4, hbs4⟩ : ∃ bs4, bs4 = bs3 ++ (headT lit far).flatMap fun n => Rq.bitsOf n 3 := ⟨_, rfl⟩
              rw [← hbs4] at HR4
              have hl4 : bs4.length ≤ 900080 := by
                have h1 := Rq.flat_len (fun n => Rq.bitsOf n 3) 3 (headT lit far) (fun x _ => by rw [Rq.bitsOf_length]; exact Nat.le_refl _)
                have := HS3.out.2
                have := H8.out.1
                rw [hbs4, List.length_append]; omega
              have HS4 := Aside0.mk (And.intro hbs4 hl4)
              have hC5 := HRd.out.2.1.at_ HR4.out.2
              have HCo := Aside0.mk (codes_calls (w := wr) (c := c5) (l := headS lit far) hC5 (by have := HB9.out.2.2; omega) (Rq.headS_Right lit far))
              clear htk hbs4 hl4 hC5 HR3 H12
              go_wp2_with fail
              refine HCo.out.mono ?_
              rintro e w14 ⟨vc, rfl, hRc, hBc⟩
              obtain ⟨A9, c9, rfl⟩ := Kd.R_slice hRc
              rw [nn_length] at hRc ⊢
              have hcl : (codesM (headS lit far)).length = 19 := by unfold codesM; rw [List.length_map, List.length_range, Rq.headS_len]
              rw [hcl] at hRc ⊢
              have H14 := Aside0.mk (show IsRow w14 g base vr bs4 ∧ FrT base [5, 45] wo w14 ∧ Rd base [5, 45] w14 (Kd.int .i64) A9 19 (nn (codesM (headS lit far))) ∧ base ≤ w14.heap.size from ⟨HR4.out.1.below hBc, HR4.out.2.below hBc, Rd.of_own hRc (by simp [Kd.int, Kd.scalar]), Nat.le_trans HB9.out.1 (Nat.le_trans HR4.out.2.size hBc.size)⟩)
              clear hRc hBc HCo hcl HR4
              go_wp2_with fail
              go_loopw [101] (fun vk wr => ∃ (q : Nat) (vr : Value), vk = .int .i64 q ∧ q ≤ k ∧ Aside0 (IsRow wr g base vr (bs4 ++ ((headR lit far).take q).flatMap (runBits (headS lit far))) ∧ FrT base [5, 45] w14 wr)) (fun vk _ => k - (intOf vk).toNat)
              case atStart => exact ⟨0, vr, rfl, Nat.zero_le _, ⟨by simpa using H14.out.1, FrT.refl _ _ _⟩⟩
              case round =>
                obtain ⟨u, vu, rfl, hu, HR5⟩ := hrel
                by_cases hlt4 : u < k
                · have x1 : (u : Int) < k := by omega
                  have hf5 := H14.out.2.1.trans HR5.out.2
                  have hCr := HRd.out.2.2.at_ hf5
                  obtain ⟨x, ad, hx, hA, y0, y1, y2⟩ := run_at hCr u hlt4
                  cases hA
                  have hxo := HK.out.1 x (List.mem_of_getElem? hx)
                  have hs18 := hxo.sym
                  have ha127 := hxo.add
                  have hb7 := hxo.bits
                  obtain ⟨xs, xa, xb⟩ := x
                  simp only at y0 y1 y2 hs18 ha127 hb7
                  obtain ⟨adc, hAc, hcc⟩ := Kd.at_int (H14.out.2.2.1.at_ HR5.out.2) (xs : Int) (by omega) (by omega)
                  cases hAc
                  obtain ⟨ads, hAs, hcs⟩ := Kd.at_int (HRd.out.2.1.at_ hf5) (xs : Int) (by omega) (by omega)
                  cases hAs
                  rw [rd_nn, Int.toNat_natCast] at hcc hcs
                  obtain ⟨co, hco⟩ : ∃ co, co = (codesM (headS lit far)).getD xs 0 := ⟨_, rfl⟩
                  obtain ⟨si, hsi⟩ : ∃ si, si = (headS lit far).getD xs 0 := ⟨_, rfl⟩
                  rw [← hco] at hcc
                  rw [← hsi] at hcs
                  have HX := Aside0.mk (And.intro hx (And.intro hco hsi))
                  have HF5 := Aside0.mk hf5
                  clear hx hxo hco hsi hf5 hCr
                  have hcA := codesM_at (headS lit far) (Rq.headS_Right lit far) xs (by rw [Rq.headS_len]; omega)
                  have hco16 : co ≤ 65535 := by rw [HX.out.2.1, hcA.1]; exact hcA.2
                  have hsi7 : si ≤ 7 := by rw [HX.out.2.2]; exact Rq.getD_le _ 7 xs (Rq.headS_le lit far)
                  have hfl : (((headR lit far).take u).flatMap (runBits (headS lit far))).length ≤ 7000 := by
                    have h1 := Rq.flat_len (runBits (headS lit far)) 22 ((headR lit far).take u) (fun x hx => Rq.runBits_len _ (Rq.headS_Right lit far).le x (HK.out.1 x (List.mem_of_mem_take hx)))
                    rw [List.length_take] at h1
                    have := HK.out.2; omega
                  have HB := Aside0.mk (And.intro hcA hfl)
                  clear hcA hfl
                  go_upto_region 30 with fail
                  generalize hW1 : World.alloc _ _ = W1
                  have hB1 : Below wr.heap.size wr W1 := by rw [← hW1]; exact below_alloc (Below.refl _ _) _
                  have p0 : W1.cell? ⟨wr.heap.size, 0, none⟩ = some (.int .i64 (xs : Int)) := by rw [← hW1]; simp [go_sem]
                  have p1 : W1.cell? ⟨wr.heap.size, 1, none⟩ = some (.int .i64 (xa : Int)) := by rw [← hW1]; simp [go_sem]
                  have p2 : W1.cell? ⟨wr.heap.size, 2, none⟩ = some (.int .i64 (xb : Int)) := by rw [← hW1]; simp [go_sem]
                  have hcc1 := pw_cell_below hB1 hcc
                  have hcs1 := pw_cell_below hB1 hcs
                  have H1 := Aside0.mk (show IsRow W1 g base vu (bs4 ++ ((headR lit far).take u).flatMap (runBits (headS lit far))) ∧ FrT base [5, 45] w14 W1 ∧ base ≤ W1.heap.size ∧ W1.heap[wr.heap.size]? = some (.cells #[.int .i64 (xs : Int), .int .i64 (xa : Int), .int .i64 (xb : Int)] 114 (0, 0)) from ⟨HR5.out.1.below hB1, HR5.out.2.below hB1, Nat.le_trans H14.out.2.2.2 (Nat.le_trans HR5.out.2.size hB1.size), by rw [← hW1]; exact heap_alloc_new wr _⟩)
                  clear hW1 hB1 hcc hcs y0 y1 y2
                  have x2 : (xs : Int) < 19 := by omega
                  go_still_tail 11, (by kernel_rfl)
                  go_wp2_with fail
                  have HCq := code_calls (w := W1.drew) (H1.out.1.drew) H1.out.2.2.1 co si (co : Int) (si : Int) rfl rfl (by omega) (by omega) (by have := HS4.out.2; have := HB.out.2; rw [List.length_append]; omega)
                  refine HCq.mono ?_
                  clear HCq
                  rintro e w15 ⟨rfl, v15, hrow15, hfr15⟩
                  have H15 := Aside0.mk (And.intro hrow15 ((H1.out.2.1.drew).trans hfr15))
                  have hblk := hfr15.blk (show W1.drew.heap[wr.heap.size]? = _ from H1.out.2.2.2) (by decide)
                  have q1 : w15.cell? ⟨wr.heap.size, 1, none⟩ = some (.int .i64 (xa : Int)) := by simp [World.cell?, hblk]
                  have q2 : w15.cell? ⟨wr.heap.size, 2, none⟩ = some (.int .i64 (xb : Int)) := by simp [World.cell?, hblk]
                  have hb15 : base ≤ w15.heap.size := Nat.le_trans H1.out.2.2.1 hfr15.size
                  clear hrow15 hfr15 hblk p0 p1 p2 hcc1 hcs1
                  have HPq := Aside0.mk (put_calls H15.out.1 hb15 xa xb (xa : Int) (xb : Int) rfl rfl (by omega) (by omega) (by have := HS4.out.2; have := HB.out.2; rw [List.length_append, List.length_append, Rq.codeBits_length]; omega))
                  go_wp2_with fail
                  refine HPq.out.mono ?_
                  rintro e w16 ⟨rfl, v16, hrow16, hfr16⟩
                  have H16 := Aside0.mk (And.intro hrow16 (H15.out.2.trans hfr16))
                  clear hrow16 hfr16 HPq
                  go_wp2_with fail
                  go_roundw
                  case rel =>
                    refine ⟨u + 1, v16, by go_num, by omega, ⟨?_, H16.out.2⟩⟩
                    have e : (headR lit far).take (u + 1) = (headR lit far).take u ++ [⟨xs, xa, xb⟩] := by
                      rw [List.take_add_one, HX.out.1]; rfl
                    have e2 : runBits (headS lit far) ⟨xs, xa, xb⟩ = Rq.codeBits co si ++ Rq.bitsOf xa xb := by
                      rw [runBits, HX.out.2.1, HX.out.2.2, HB.out.1.1]
                    rw [e, List.flatMap_append, List.flatMap_singleton, e2]
                    have := H16.out.1
                    rw [List.append_assoc, List.append_assoc] at this
                    exact this
                  case measure => simp [intOf]; omega
                · have x1 : ¬ (u : Int) < k := by omega
                  obtain rfl : u = k := by omega
                  go_wp2_with fail
                  go_end0
                  have htk : (headR lit far).take u = headR lit far := List.take_of_length_le (by have := H4.out.2; omega)
                  have h5 := HR5.out
                  rw [htk] at h5
                  refine ⟨rfl, ⟨vu, ?_⟩, (FrT.of_below H8.out.2.2.2.1 base _).trans (H14.out.2.1.trans h5.2)⟩
                  have e : bs ++ headBits lit far = bs4 ++ (headR lit far).flatMap (runBits (headS lit far)) := by
                    have h1 := HN.out.1
                    have h2 := HN.out.2.1
                    rw [HS4.out.1, HS3.out.1, headBits, ← h1, ← h2, ← H8.out.1]
                    simp only [List.append_assoc]
                  rw [e]
                  exact h5.1
end Go.Proofs.Ythfkjejjndgajaa
