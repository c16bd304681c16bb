/- MLens: Lens, Blens. -/
import Derived.Test.YthfkjejjndgajaaMWeigh
import Derived.Test.YthfkjejjndgajaaMBase
import Derived.Test.YthfkjejjndgajaaPlainA
import Derived.Deep.DeepCutAuto
import Derived.Deep.CutBlock
import Derived.Deep.RegionHeld3
/- weigh.Lengths: the lengths of a shortest code. -/
namespace Go.Proofs.Ythfkjejjndgajaa
open Go.RowKit Go.Proofs.YthfkjejjndgajaaW.PrintWords
open Rq (onesTo onesM rowM sumsM pairsM weighM pkey isort Pk)

def toPk (p : Pg) : Pk := (p.w, p.many)
/-- A pack whose numbers lie in a block of the call's own, other than b. -/
structure PkAt (b N : Nat) (w : World) (p : Pg) : Prop where
  n : p.n = N
  len : p.many.length = N
  row : Kd.R (Kd.int .i64) 3 w b (fun k => k ≠ b) (.slice p.A p.n p.c) (nn p.many)
def AllAt (b N : Nat) (w : World) (L : List Pg) : Prop := ∀ p ∈ L, PkAt b N w p
section
variable {b N : Nat} {w w1 : World} {p : Pg} {L M : List Pg}
theorem PkAt.frt {base : Nat} (h : PkAt b N w p) (hf : FrT base [146] w w1) : PkAt b N w1 p := ⟨h.n, h.len, R_frt h.row hf (by simp [Kd.int, Kd.scalar])⟩
theorem AllAt.frt {base : Nat} (h : AllAt b N w L) (hf : FrT base [146] w w1) : AllAt b N w1 L := fun p hp => (h p hp).frt hf
theorem AllAt.below (h : AllAt b N w L) (hb : Below w.heap.size w w1) : AllAt b N w1 L := h.frt (.of_below hb 0 _)
theorem AllAt.far (h : AllAt b N w L) (i : Nat) (u : Value) : AllAt b N (w.setCell ⟨b, i, none⟩ u) L := fun p hp => ⟨(h p hp).n, (h p hp).len, Kd.R_far (h p hp).row (fun _ hk => hk) u⟩
theorem AllAt.nil : AllAt b N w [] := fun p hp => by cases hp
theorem AllAt.append (h : AllAt b N w L) (h' : AllAt b N w M) : AllAt b N w (L ++ M) := fun p hp => (List.mem_append.1 hp).elim (h p) (h' p)
theorem AllAt.one (h : PkAt b N w p) : AllAt b N w [p] := fun q hq => by rw [List.mem_singleton.1 hq]; exact h
theorem AllAt.perm (h : AllAt b N w L) (hp : M.Perm L) : AllAt b N w M := fun p hq => h p (hp.mem_iff.1 hq)
theorem AllAt.grown {b' : Nat} {ok' : Nat → Prop} {v : Value} (h : AllAt b N w L) (hv : Kd.R kPg 146 w b' ok' v M) (hg : w.grownBy w1 v.ownBlock) : AllAt b N w1 L := fun p hp => ⟨(h p hp).n, (h p hp).len, Kd.R_over (h p hp).row hv (by simp [Kd.int, Kd.scalar]) hg⟩
end

/-- A pack's two cells in a row of the call's own. -/
theorem pk_cells {w : World} {base g n cap : Nat} {ok : Nat → Prop} {L : List Pg} (h : Kd.R kPg 146 w base ok (.slice (some ⟨g, 0, none⟩) n cap) L) (i : Nat) (hi : i < n) (p : Pg) (hp : L[i]? = some p) :
    w.cell? ⟨g, i * 2, none⟩ = some (.int .i64 (p.w : Int)) ∧ w.cell? ⟨g, i * 2 + 1, none⟩ = some (.slice p.A p.n p.c) := by
  obtain ⟨c, hc, hM, hcell, _⟩ := Kd.R_elem h p (i : Int) (by omega) (by omega)
  rw [Int.toNat_natCast] at hM hcell
  have e : L.getD i p = p := by rw [List.getD_eq_getElem?_getD, hp]; rfl
  rw [e] at hM
  have hM' : c = encP p := hM
  subst hM'
  exact ⟨hcell 0 _ rfl, hcell 1 _ rfl⟩

theorem own_parts2 {w : World} {base g n cap : Nat} {ok : Nat → Prop} {L : List Pg} (h : Kd.R kPg 146 w base ok (.slice (some ⟨g, 0, none⟩) n cap) L) : g < w.heap.size := Kd.R_lt h g rfl

theorem C_two {W : World} {b : Nat} {A1 A2 : Option Addr} {n1 n2 c1 c2 : Nat} {L M : List Pg} (h1 : n1 = L.length) (h2 : n2 = M.length) (hc1 : n1 ≤ c1) (hc2 : n2 ≤ c2) (hL : Kd.C kPg W A1 n1 L) (hM : Kd.C kPg W A2 n2 M) :
    Kd.C (Kd.slice 146 kPg) (W.alloc (.cells #[.slice A1 n1 c1, .slice A2 n2 c2] b)) (some ⟨W.heap.size, 0, none⟩) 2 [L, M] := by
  subst h1 h2
  have hb := below_alloc (Below.refl W.heap.size W) (.cells #[.slice A1 L.length c1, .slice A2 M.length c2] b)
  refine ⟨rfl, by omega, fun _ => ⟨_, rfl, ?_⟩⟩
  intro j p hj
  have hj2 : j < 2 := by simpa using (List.getElem?_eq_some_iff.1 hj).1
  rcases (by omega : j = 0 ∨ j = 1) with rfl | rfl
  · cases hj
    refine ⟨[.slice A1 L.length c1], rfl, ⟨A1, c1, rfl, hc1, Kd.C_below hL hb⟩, ?_⟩
    intro i u hi
    have hi0 : i < 1 := by simpa using (List.getElem?_eq_some_iff.1 hi).1
    obtain rfl : i = 0 := by omega
    cases hi
    simp [go_sem, Kd.slice]
  · cases hj
    refine ⟨[.slice A2 M.length c2], rfl, ⟨A2, c2, rfl, hc2, Kd.C_below hM hb⟩, ?_⟩
    intro i u hi
    have hi0 : i < 1 := by simpa using (List.getElem?_eq_some_iff.1 hi).1
    obtain rfl : i = 0 := by omega
    cases hi
    simp [go_sem, Kd.slice]

theorem ones_used (l : List Nat) : (onesM l).length = used l := by
  have h : ∀ i, i ≤ l.length → (onesTo l i).length = used (l.take i) := by
    intro i
    induction i with
    | zero => intro _; simp [used, onesTo]
    | succ i ih =>
      intro hi
      rw [used_succ l i (by omega), ← ih (by omega)]
      by_cases h0 : 0 < l.getD i 0
      · rw [Rq.onesTo_pos l i h0, if_pos h0]; simp
      · rw [Rq.onesTo_not l i h0, if_neg h0]; rfl
  have := h l.length (Nat.le_refl _)
  rw [Rq.onesTo_all, List.take_length] at this
  exact this

/-- The numbers' block is one of the first. -/
theorem newer {w w1 : World} {v : Value} {n : Nat} (h : Kd.R (Kd.int .i64) 3 w1 w.heap.size (fun k => k = w.heap.size) v (nn (List.replicate n 0))) (hn : 0 < n) : w1.heap.size ≠ w.heap.size := by
  obtain ⟨g, cap, hv, hb, hl, _⟩ := Kd.R_form h (by rw [nn_length]; simpa using hn)
  have := h.1 g (by rw [hv]; rfl)
  omega

set_option maxHeartbeats 1000000 in
set_option maxRecDepth 100000 in
theorem lengths_calls {w : World} {A : Option Addr} {c n : Nat} {l : List Nat} (hr : Kd.C (Kd.int .i64) w A n (nn l)) (hlen : n ≤ 288) (hval : ∀ x ∈ l, x ≤ 1000000)
    (most : Nat) (z : Int) (hz : z = most) (h1 : 1 ≤ most) (h15 : most ≤ 15) (hu : used l ≤ 2 ^ most) :
    Calls Try.prog 62 #[.slice A n c, .int .i64 z] w fun e w' => ∃ v, e = .returned (.tuple #[v, .int .i64 0]) ∧
      Kd.R (Kd.int .i64) 3 w' w.heap.size (fun _ => True) v (nn (weighM l most)) ∧ Below w.heap.size w w' := by
  subst hz
  have hn : n = l.length := by have := hr.1; rw [nn_length] at this; exact this.symm
  have HCk := Aside0.mk (wcheck_calls (c := c) (by rw [← hn]; exact hr) (by omega) hval most (most : Int) rfl h1 h15 hu)
  rw [← hn] at HCk
  have HC := Aside0.mk hr
  have HN := Aside0.mk hn
  have HV := Aside0.mk hval
  have HU := Aside0.mk hu
  clear hr hn hval hu
  go_enter Try.func62, Try.ntmps62
  go_wp2_with fail
  refine HCk.out.mono ?_
  rintro e w1 ⟨rfl, rfl⟩
  clear HCk
  go_upto_block 0 with (first
    | ((with_reducible refine gate_dst (N := 28) rfl ?_)
       refine Kd.R_make (Kd.int .i64) (w0 := w) w.heap.size 3 rfl (N := 28) rfl 30 _ _ rfl (n : Int) rfl rfl Try.underlying30 (.int .i64 0) 8 info_int rfl (by decide) (by decide) 0 (ok := fun k => k = w.heap.size) (okp := fun _ => False) rfl (fun _ h => h.elim) rfl (by omega) (by simp; omega) (Below.refl _ _) (Nat.le_refl _) ?_
       intro v7 w1 hR7 hB7 hg7 hn7
       have H7 := Aside0.mk (And.intro hR7 (And.intro hB7 hn7))
       clear hg7 hR7 hB7 hn7))
  go_cut [8] (fun v8 wx => ∃ L : List Pg, Aside0 (L.map toPk = onesM l ∧ Kd.R kPg 146 wx w.heap.size (fun _ => True) v8 L ∧ AllAt w.heap.size n wx L ∧
    Kd.R (Kd.int .i64) 3 wx w.heap.size (fun k => k = w.heap.size) v7 (nn (List.replicate n 0)) ∧ Below w.heap.size w wx))
  case first =>
    go_wp2_with fail
    go_loopw [8, 31] (fun v8 vk wr => ∃ (k : Nat) (L : List Pg), k ≤ n ∧ vk = .int .i64 k ∧ L.length ≤ k ∧ Aside0 (L.map toPk = onesTo l k ∧ Kd.R kPg 146 wr w.heap.size (fun _ => True) v8 L ∧ AllAt w.heap.size n wr L ∧
      Kd.R (Kd.int .i64) 3 wr w.heap.size (fun k => k = w.heap.size) v7 (nn (List.replicate n 0)) ∧ Below w.heap.size w wr)) (fun _ vk _ => n - (intOf vk).toNat)
    case atStart =>
      exact ⟨0, [], Nat.zero_le _, rfl, Nat.zero_le _, ⟨rfl, Kd.R_nil _ _ _ _ _, AllAt.nil, by simpa [nn] using H7.out.1, H7.out.2.1⟩⟩
    case round =>
      obtain ⟨k, L, hk, rfl, hLk, HK⟩ := hrel
      by_cases hlt : k < n
      · obtain ⟨ad, hA, hcell⟩ := Kd.at_int (Kd.C_below HC.out HK.out.2.2.2.2) (k : Int) (by omega) (by omega)
        cases hA
        rw [rd_nn, Int.toNat_natCast] at hcell
        obtain ⟨x, hx⟩ : ∃ x, x = l.getD k 0 := ⟨_, rfl⟩
        rw [← hx] at hcell
        have hx6 : x ≤ 1000000 := by
          rw [hx, List.getD_eq_getElem?_getD, List.getElem?_eq_getElem (by have := HN.out; omega)]
          exact HV.out _ (List.getElem_mem _)
        have HX := Aside0.mk hx
        have k1 : (k : Int) < n := by omega
        clear hx
        by_cases h0 : 0 < x
        · have x3 : (0 : Int) < x := by omega
          have h1n : 0 < n := by omega
          go_upto_region 12 with (first
            | ((with_reducible refine gate_dst (N := 41) rfl ?_)
               refine Kd.R_make (Kd.int .i64) (w0 := wr) w.heap.size 3 rfl (N := 41) rfl 30 _ _ rfl (n : Int) rfl rfl Try.underlying30 (.int .i64 0) 8 info_int rfl (by decide) (by decide) 0 (ok := fun k => k ≠ w.heap.size) (okp := fun _ => False) rfl (fun _ h => h.elim) (newer HK.out.2.2.2.1 h1n) (by omega) (by simp; omega) (Below.refl _ _) HK.out.2.2.2.2.size ?_
               intro v41 w1 hR hB hg hnw
               obtain ⟨g1, c1, hv1, hbg, hgl, _⟩ := Kd.R_form hR (by simp; omega)
               rw [List.length_replicate, Int.toNat_natCast] at hv1
               subst hv1
               obtain ⟨x0, x1⟩ := Kd.R_celln 0 (Kd.R_alloc hR (.cells #[.int .i64 (x : Int), .slice (some ⟨g1, 0, none⟩) n c1] 146)) (k : Int) (by omega) (by omega)
               obtain ⟨y0, y1⟩ := Kd.R_celln 0 hR (k : Int) (by omega) (by omega)
               rw [Int.toNat_natCast] at x0 x1 y0 y1
               have H1 := Aside0.mk (And.intro hR (And.intro hB (And.intro hg hnw)))
               clear hR hB hg hnw))
          generalize hW2 : World.alloc (World.setCell _ _ _) _ = W2
          have hs1 : wr.heap.size ≤ g1 := by
            obtain ⟨b1, hb1, hb2⟩ := H1.out.2.2.2
            have : g1 = b1 := by simpa [Value.ownBlock] using hb1
            omega
          have hBn : Below wr.heap.size wr w1 := ⟨H1.out.2.2.1.os, H1.out.2.2.1.tape, H1.out.2.2.1.output, H1.out.2.2.1.size, fun i hi => H1.out.2.2.1.block i hi (by simp)⟩
          have hBW : Below wr.heap.size wr W2 := by rw [← hW2]; exact below_alloc (hBn.setCell (p := ⟨g1, k, none⟩) hs1 _) _
          have hRu : Kd.R (Kd.int .i64) 3 W2 w.heap.size (fun k => k ≠ w.heap.size) (.slice (some ⟨g1, 0, none⟩) n c1) (nn (Rq.unitM n k)) := by
            have h1 := Kd.R_putn H1.out.1 (k : Int) 1
            rw [Int.toNat_natCast, Int.toNat_natCast] at h1
            have e : (List.replicate n (0 : Int)).set k 1 = nn (Rq.unitM n k) := by simp [nn, Rq.unitM, List.map_set]
            rw [e] at h1
            rw [← hW2]; exact Kd.R_alloc h1 _
          have c0 : W2.cell? ⟨w1.heap.size, 0, none⟩ = some (.int .i64 (x : Int)) := by
            rw [← hW2]; simp [go_sem]
          have c1' : W2.cell? ⟨w1.heap.size, 1, none⟩ = some (.slice (some ⟨g1, 0, none⟩) n c1) := by
            rw [← hW2]; simp [go_sem]
          have H2 := Aside0.mk (And.intro hBW hRu)
          clear hW2 x0 x1 y0 y1 hs1 hBn hBW hRu H1
          go_wp2_with (first
            | (at_builtin
               go_must (refine Kd.R_append kPg (w0 := w) w.heap.size rfl (.tmp 47) (.tmp 49) 144 146 (.agg #[.int .i64 0, .slice none 0 0]) 32 rfl Try.underlying144 info_pk rfl (by decide) (by decide) _ L ⟨x, some ⟨g1, 0, none⟩, n, c1, Rq.unitM n k⟩ [.int .i64 (x : Int), .slice (some ⟨g1, 0, none⟩) n c1] (fun _ => True) (fun _ => False) rfl rfl rfl (fun _ h => h.elim) (fun _ _ => trivial) (Kd.R_below HK.out.2.1 H2.out.1) (HK.out.2.2.2.2.trans (H2.out.1.mono HK.out.2.2.2.2.size)) (Nat.le_trans HK.out.2.2.2.2.size H2.out.1.size) (by omega) ?_)
               intro v8' w3 hR3 hB3 hg3 hat3
               have H3 := Aside0.mk (And.intro hR3 (And.intro hB3 (And.intro hg3 hat3)))
               clear hR3 hB3 hg3 hat3))
          go_roundw
          case rel =>
            have hRL := Kd.R_below HK.out.2.1 H2.out.1
            have hg3 := H3.out.2.2.1
            refine ⟨k + 1, L ++ [⟨x, some ⟨g1, 0, none⟩, n, c1, Rq.unitM n k⟩], by omega, by go_num, by simp; omega, ⟨?_, H3.out.1, ?_, ?_, H3.out.2.1⟩⟩
            · rw [Rq.onesTo_pos l k (by rw [← HX.out]; exact h0), List.map_append, HK.out.1, ← HX.out, ← HN.out]; rfl
            · exact ((HK.out.2.2.1.below H2.out.1).append (.one ⟨rfl, Rq.unitM_len _ _, H2.out.2⟩)).grown hRL hg3
            · exact Kd.R_over (Kd.R_below HK.out.2.2.2.1 H2.out.1) hRL (by simp [Kd.int, Kd.scalar]) hg3
          case measure => simp [intOf]; omega
        · have x3 : ¬ (0 : Int) < x := by omega
          go_wp2_with fail
          go_roundw
          case rel => exact ⟨k + 1, L, by omega, by go_num, by omega, ⟨by rw [Rq.onesTo_not l k (by rw [← HX.out]; exact h0)]; exact HK.out.1, HK.out.2⟩⟩
          case measure => simp [intOf]; omega
      · have k1 : ¬ (k : Int) < n := by omega
        go_wp2_with fail
        go_meet
        case rel =>
          obtain rfl : k = n := by omega
          exact ⟨L, ⟨by rw [← Rq.onesTo_all, ← HN.out]; exact HK.out.1, HK.out.2⟩⟩
  case rest =>
    obtain ⟨L, HL⟩ := hcut
    obtain ⟨A8, c8, rfl⟩ := Kd.R_slice HL.out.2.1
    obtain ⟨m, hm⟩ : ∃ m, m = L.length := ⟨_, rfl⟩
    rw [← hm] at HL ⊢
    have hml : m ≤ 288 := by
      have h1 : L.length = (onesM l).length := by rw [← HL.out.1, List.length_map]
      have h2 := Rq.onesTo_le l l.length
      rw [Rq.onesTo_all] at h2
      have := HN.out; omega
    have hmo : m = (onesM l).length := by rw [← HL.out.1, List.length_map, hm]
    have HM := Aside0.mk (And.intro hm hmo)
    clear hm hmo
    by_cases m0 : m = 0
    · subst m0
      go_wp2_with fail
      go_ret2
      refine ⟨v7, rfl, ?_, HL.out.2.2.2.2⟩
      rw [Rq.weighM_zero _ _ HM.out.2.symm, ← HN.out]
      exact Kd.R_mono HL.out.2.2.2.1 (fun _ _ => trivial)
    by_cases m1 : m = 1
    · subst m1
      obtain ⟨p, hp⟩ : ∃ p, L = [p] := List.length_eq_one_iff.1 HM.out.1.symm
      subst hp
      obtain ⟨g, cap, hv, _⟩ := Kd.R_form HL.out.2.1 (by simp)
      cases hv
      obtain ⟨c0, c1⟩ := pk_cells HL.out.2.1 0 (by omega) p rfl
      go_wp2_with fail
      go_ret2
      have hP := HL.out.2.2.1 p (by simp)
      refine ⟨.slice p.A p.n p.c, rfl, ?_, HL.out.2.2.2.2⟩
      have h1 := HL.out.1
      rw [Rq.weighM_one _ _ HM.out.2.symm, ← h1]
      exact Kd.R_mono hP.row (fun _ _ => trivial)
    obtain ⟨g, cap, hv, _⟩ := Kd.R_form HL.out.2.1 (by have := HM.out; omega)
    rw [← HM.out.1] at hv
    cases hv
    have m2 : (m : Int) ≠ 0 := by omega
    have m3 : (m : Int) ≠ 1 := by omega
    have hn0 : 0 < n := by
      have h2 := Rq.onesTo_le l l.length
      rw [Rq.onesTo_all] at h2
      have := HN.out; have := HM.out; omega
    have hlight : Light L := by
      intro p hp
      have h2 := (Rq.onesM_bnd l 1000000 HV.out (toPk p) (by rw [← HL.out.1]; exact List.mem_map_of_mem hp)).1
      simp only [toPk] at h2; omega
    have HRis := Aside0.mk (rising_calls (l := L) (by rw [← HM.out.1]; exact HL.out.2.1) (by have := HM.out; omega) hlight (by have := HM.out; omega))
    rw [← HM.out.1] at HRis
    obtain ⟨T, hT⟩ : ∃ T, most = T + 1 := ⟨most - 1, by omega⟩
    subst hT
    clear hlight
    go_wp2_with fail
    refine HRis.out.mono ?_
    rintro e w2 ⟨rfl, hR2, hF2⟩
    have hperm := Rq.isort_perm Pg.w L
    have hmap : (Rq.isort Pg.w L).map toPk = Rq.isort pkey (onesM l) := by rw [← HL.out.1]; exact (Rq.isort_map toPk Pg.w pkey (fun _ => rfl) L).symm
    have H2 := Aside0.mk (And.intro hR2 (And.intro ((HL.out.2.2.1.frt hF2).perm hperm) (And.intro (R_frt HL.out.2.2.2.1 hF2 (by simp [Kd.int, Kd.scalar])) (FrT.of_below_then HL.out.2.2.2.2 hF2))))
    have hl1 : (Rq.isort Pg.w L).length = m := by rw [Rq.isort_length]; exact HM.out.1.symm
    obtain ⟨L1, hL1⟩ : ∃ L1, L1 = Rq.isort Pg.w L := ⟨_, rfl⟩
    rw [← hL1] at H2 hmap hl1
    have HL1 := Aside0.mk (And.intro hmap hl1)
    clear HL HRis hR2 hF2 hL1 hmap hl1 hperm
    have hC1 := (Kd.R_reads' H2.out.1).2.2
    rw [HL1.out.2] at hC1
    have HClone := Aside0.mk (clonePk_calls (c := c8) hC1 (by omega))
    clear hC1
    go_wp2_with fail
    refine HClone.out.mono ?_
    rintro e w3 ⟨v13, rfl, hR3, hB3⟩
    have H3 := Aside0.mk (And.intro (Kd.R_lower hR3 H2.out.2.2.2.size) (And.intro (Kd.R_below H2.out.1 hB3) (And.intro (H2.out.2.1.below hB3) (And.intro (Kd.R_below H2.out.2.2.1 hB3) (H2.out.2.2.2.trans (hB3.mono H2.out.2.2.2.size))))))
    have hbn : w.heap.size < w3.heap.size := by
      obtain ⟨g0, cap0, hv0, _, hl0, _⟩ := Kd.R_form H3.out.2.2.2.1 (by rw [nn_length]; simpa using hn0)
      have := H3.out.2.2.2.1.1 g0 (by rw [hv0]; rfl)
      omega
    clear H2 HClone hR3 hB3
    obtain ⟨one, hone⟩ : ∃ one, one = Rq.isort pkey (onesM l) := ⟨_, rfl⟩
    have HONE := Aside0.mk hone
    have HO1 := Aside0.mk (show L1.map toPk = one ∧ L1.length = m ∧ one.length = m from ⟨by rw [hone]; exact HL1.out.1, HL1.out.2, by rw [hone, Rq.isort_length]; exact HM.out.2.symm⟩)
    have HBND := Aside0.mk (show ∀ t, t ≤ 14 → ∀ p ∈ rowM one t, p.1 ≤ 1000000000000 ∧ ∀ x ∈ p.2, x ≤ 16384 by
      intro t ht
      have h1 := Rq.rowM_bnd one (by rw [hone]; exact Rq.isort_bnd (Rq.onesM_bnd l 1000000 HV.out)) t
      have h2 : 2 ^ t ≤ 2 ^ 14 := Nat.pow_le_pow_right (by decide) ht
      exact h1.mono (by omega) (by omega))
    clear hone HL1
    go_upto_block 2 with fail
    go_cut [13] (fun v13 wx => ∃ Lr : List Pg, Aside0 (Lr.map toPk = rowM one T ∧ Kd.R kPg 146 wx w.heap.size (fun _ => True) v13 Lr ∧ AllAt w.heap.size n wx Lr ∧
      Kd.R (Kd.int .i64) 3 wx w.heap.size (fun k => k = w.heap.size) v7 (nn (List.replicate n 0)) ∧ Below w.heap.size w wx))
    case first =>
      go_wp2_with fail
      go_loopw [13, 70] (fun v13 vk wr => ∃ (k : Nat) (Lr : List Pg), k ≤ T ∧ vk = .int .i64 k ∧ w.heap.size < wr.heap.size ∧ Aside0 (Lr.map toPk = rowM one k ∧ Kd.R kPg 146 wr w.heap.size (fun _ => True) v13 Lr ∧ AllAt w.heap.size n wr Lr ∧
        Kd.R (Kd.int .i64) 3 wr w.heap.size (fun k => k = w.heap.size) v7 (nn (List.replicate n 0)) ∧ Below w.heap.size w wr) ∧
        Aside0 (Kd.R kPg 146 wr w.heap.size (fun _ => True) (.slice (some ⟨g, 0, none⟩) m c8) L1 ∧ AllAt w.heap.size n wr L1)) (fun _ vk _ => T - (intOf vk).toNat)
      case atStart =>
        exact ⟨0, L1, Nat.zero_le _, rfl, hbn, ⟨HO1.out.1, H3.out.1, H3.out.2.2.1, H3.out.2.2.2.1, H3.out.2.2.2.2⟩, ⟨H3.out.2.1, H3.out.2.2.1⟩⟩
      case round =>
        obtain ⟨k, Lr, hk, rfl, hbr, HK, HJ⟩ := hrel
        by_cases hlt : k < T
        · have k1 : (k : Int) < T := by omega
          obtain ⟨ln, hln⟩ : ∃ ln, ln = Lr.length := ⟨_, rfl⟩
          have hlr : ln = (rowM one k).length := by rw [hln, ← HK.out.1, List.length_map]
          have hl2 : m ≤ ln := by rw [hlr, ← HO1.out.2.2]; exact Rq.rowM_ge _ _
          have hl3 : ln ≤ 2 * m := by rw [hlr, ← HO1.out.2.2]; exact Rq.rowM_short _ _
          obtain ⟨g2, c13, hv, _⟩ := Kd.R_form HK.out.2.1 (by omega)
          rw [← hln] at hv
          subst hv
          have HLN := Aside0.mk (And.intro hln hlr)
          clear hln hlr H3 hbn
          rename World => wo
          go_upto_block 4 with fail
          go_cut [14] (fun v14 wx => ∃ P : List Pg, Aside0 (P.map toPk = pairsM (rowM one k) ∧ Kd.R kPg 146 wx wo.heap.size (fun _ => True) v14 P ∧ AllAt w.heap.size n wx P ∧ Below wo.heap.size wo wx))
          case first =>
            go_wp2_with fail
            go_loopw [14, 15] (fun v14 v15 wi => ∃ (q : Nat) (P : List Pg), v15 = .int .i64 q ∧ q ≤ ln ∧ P.length ≤ q ∧ Aside0 (∃ j, q = 2 * j ∧ P.map toPk = pairsM ((rowM one k).take (2 * j))) ∧ Aside0 (Kd.R kPg 146 wi wo.heap.size (fun _ => True) v14 P ∧ AllAt w.heap.size n wi P ∧ Below wo.heap.size wo wi)) (fun _ v15 _ => ln - (intOf v15).toNat)
            case atStart => exact ⟨0, [], rfl, Nat.zero_le _, Nat.zero_le _, ⟨0, rfl, rfl⟩, ⟨Kd.R_nil _ _ _ _ _, AllAt.nil, Below.refl _ _⟩⟩
            case round =>
              obtain ⟨q, P, rfl, hq, hPq, HQ, HP⟩ := hrel
              by_cases hlt2 : q + 1 < ln
              · have q1 : (q : Int) + 1 < ln := by omega
                have q0 : (0 : Int) ≤ q := by omega
                have q1' : (q : Int) < ln := by omega
                obtain ⟨p, hp⟩ : ∃ p, Lr[q]? = some p := ⟨_, List.getElem?_eq_getElem (by have := HLN.out; omega)⟩
                obtain ⟨p', hp'⟩ : ∃ p', Lr[q + 1]? = some p' := ⟨_, List.getElem?_eq_getElem (by have := HLN.out; omega)⟩
                have hRr := Kd.R_below HK.out.2.1 HP.out.2.2
                obtain ⟨c0, c1⟩ := pk_cells hRr q (by omega) p hp
                obtain ⟨d0, d1⟩ := pk_cells hRr (q + 1) (by omega) p' hp'
                have HPP := Aside0.mk (And.intro hp hp')
                have e2 : IntKind.i64.wrap ((q : Int) + 1) = (q : Int) + 1 := IntWalk.i64_in _ (by omega)
                have e3 : (0 : Int) ≤ (q : Int) + 1 := by omega
                have e4 : ((q : Int) + 1).toNat = q + 1 := by omega
                have hgb : g2 < wo.heap.size := (own_parts2 HK.out.2.1)
                obtain ⟨c0', c1'⟩ := pk_cells HK.out.2.1 q (by omega) p HPP.out.1
                obtain ⟨d0', d1'⟩ := pk_cells HK.out.2.1 (q + 1) (by omega) p' HPP.out.2
                have HS := Aside0.mk (show ∀ W, Below wo.heap.size wo W → (W.cell? ⟨g2, q * 2, none⟩ = some (.int .i64 (p.w : Int)) ∧ W.cell? ⟨g2, q * 2 + 1, none⟩ = some (.slice p.A p.n p.c) ∧ W.cell? ⟨g2, (q + 1) * 2, none⟩ = some (.int .i64 (p'.w : Int)) ∧ W.cell? ⟨g2, (q + 1) * 2 + 1, none⟩ = some (.slice p'.A p'.n p'.c)) from
                  fun W hb => ⟨(hb.cell (p := ⟨g2, q * 2, none⟩) hgb).trans c0', (hb.cell (p := ⟨g2, q * 2 + 1, none⟩) hgb).trans c1', (hb.cell (p := ⟨g2, (q + 1) * 2, none⟩) hgb).trans d0', (hb.cell (p := ⟨g2, (q + 1) * 2 + 1, none⟩) hgb).trans d1'⟩)
                clear c0' c1' d0' d1'
                clear hgb
                have HPK := Aside0.mk (show PkAt w.heap.size n wr p ∧ PkAt w.heap.size n wr p' ∧ (p.w ≤ 1000000000000 ∧ ∀ x ∈ p.many, x ≤ 1000000) ∧ (p'.w ≤ 1000000000000 ∧ ∀ x ∈ p'.many, x ≤ 1000000) from by
                  have m1 : p ∈ Lr := List.mem_of_getElem? HPP.out.1
                  have m2 : p' ∈ Lr := List.mem_of_getElem? HPP.out.2
                  have b1 := HBND.out k (by omega) (toPk p) (by rw [← HK.out.1]; exact List.mem_map_of_mem m1)
                  have b2 := HBND.out k (by omega) (toPk p') (by rw [← HK.out.1]; exact List.mem_map_of_mem m2)
                  exact ⟨HK.out.2.2.1.below HP.out.2.2 _ m1, HK.out.2.2.1.below HP.out.2.2 _ m2, ⟨b1.1, fun x hx => by have := b1.2 x hx; omega⟩, ⟨b2.1, fun x hx => by have := b2.2 x hx; omega⟩⟩)
                have HCC := Aside0.mk (show ∀ W, Below wr.heap.size wr W → Kd.C (Kd.int .i64) W p.A p.n (nn p.many) ∧ Kd.C (Kd.int .i64) W p'.A p'.n (nn p'.many) from fun W hb => by
                  have r1 := Kd.R_reads' HPK.out.1.row
                  have r2 := Kd.R_reads' HPK.out.2.1.row
                  rw [← r1.1] at r1
                  rw [← r2.1] at r2
                  exact ⟨Kd.C_below r1.2.2 hb, Kd.C_below r2.2.2 hb⟩)
                go_upto_region 27 with fail
                go_region_held3 (fun w' => w'.cell? ⟨g2, q * 2, none⟩ = some (.int .i64 (p.w : Int)) ∧ w'.cell? ⟨g2, q * 2 + 1, none⟩ = some (.slice p.A p.n p.c) ∧ w'.cell? ⟨g2, (q + 1) * 2, none⟩ = some (.int .i64 (p'.w : Int)) ∧ w'.cell? ⟨g2, (q + 1) * 2 + 1, none⟩ = some (.slice p'.A p'.n p'.c))
                  (first | exact HS.out _ HP.out.2.2 | exact HS.out _ (below_drew HP.out.2.2) | exact HS.out _ (HP.out.2.2.trans (HB4.out.mono HP.out.2.2.size)) | exact HS.out _ (below_alloc (HP.out.2.2.trans (HB4.out.mono HP.out.2.2.size)) _) | exact HS.out _ H5.out.2.1)
                  (first
                    | (go_at_call 92
                       refine (both_calls p p' (HCC.out _ (by first | exact Below.refl _ _ | exact below_drew (Below.refl _ _))).1 (HCC.out _ (by first | exact Below.refl _ _ | exact below_drew (Below.refl _ _))).2 (by have h1 := HPK.out.1.n; have h2 := HPK.out.1.len; omega) (by have h1 := HPK.out.2.1.n; have h2 := HPK.out.2.1.len; omega) (by have h1 := HPK.out.1.len; have h2 := HPK.out.2.1.len; omega) (by have h1 := HPK.out.1.len; omega) HPK.out.2.2.1.1 HPK.out.2.2.2.1 HPK.out.2.2.1.2 HPK.out.2.2.2.2).mono ?_
                       rintro e w4 ⟨v4, rfl, hR4, hB4⟩
                       obtain ⟨A4, c4, rfl⟩ := Kd.R_slice hR4
                       have hl4 : (nn (List.zipWith (· + ·) p.many p'.many)).length = n := by rw [nn_length, List.length_zipWith, HPK.out.1.len, HPK.out.2.1.len]; omega
                       rw [hl4] at hR4 ⊢
                       have HB4 := Aside0.mk (show Below wr.heap.size wr w4 from (by first | exact hB4 | exact (below_drew (Below.refl _ _)).trans hB4))
                       have HR4 := Aside0.mk (Kd.R_lower (base' := wr.heap.size) hR4 (Nat.le_refl _))
                       clear hR4 hB4 hl4)
                    | (refine Kd.R_append_step kPg (w0 := wo) wo.heap.size (by rfl) (.tmp 79) (.tmp 90) 144 146 (.agg #[.int .i64 0, .slice none 0 0]) 32 (by rfl) Try.underlying144 info_pk rfl (by decide) (by decide) _ P ⟨p.w + p'.w, A4, n, c4, List.zipWith (· + ·) p.many p'.many⟩ [.int .i64 ((p.w : Int) + p'.w), .slice A4 n c4] (fun _ => True) (fun _ => False) (by rfl) (by rfl) (by rfl) (fun _ h => h.elim) (fun _ _ => trivial) (Kd.R_below HP.out.1 HB4.out) (HP.out.2.2.trans (HB4.out.mono HP.out.2.2.size)) (Nat.le_trans HP.out.2.2.size HB4.out.size) (by omega) ?_
                       intro v5 w5 hR5 hB5 hg5 hat5
                       have H5 := Aside0.mk (And.intro hR5 (And.intro hB5 (And.intro hg5 hat5)))
                       clear hR5 hB5 hg5 hat5))
                go_wp2_with fail
                go_roundw
                case rel =>
                  have hz : (List.zipWith (· + ·) p.many p'.many).length = n := by rw [List.length_zipWith, HPK.out.1.len, HPK.out.2.1.len]; omega
                  have hPn : PkAt w.heap.size n w4 ⟨p.w + p'.w, A4, n, c4, List.zipWith (· + ·) p.many p'.many⟩ :=
                    ⟨rfl, hz, Kd.R_lower (Kd.R_mono (Kd.R_bound HR4.out) (fun j hj => by have h1 := hj.2.1; have h2 := HP.out.2.2.size; show j ≠ _; omega)) (by have h2 := HP.out.2.2.size; omega)⟩
                  refine ⟨q + 2, P ++ [⟨p.w + p'.w, A4, n, c4, List.zipWith (· + ·) p.many p'.many⟩], by go_num, by omega, by simp; omega, ⟨?_⟩, ⟨H5.out.1, ?_, H5.out.2.1⟩⟩
                  · obtain ⟨j, hj, hmp⟩ := HQ.out
                    have hlr : ln = (rowM one k).length := HLN.out.2
                    refine ⟨j + 1, by omega, ?_⟩
                    rw [List.map_append, hmp, Rq.pairsM_step _ j (by omega)]
                    congr 1
                    have ep : ∀ (i : Nat) (r : Pg) (h : i < (rowM one k).length), Lr[i]? = some r → (rowM one k)[i] = toPk r := by
                      intro i r h hr
                      have h1 : (rowM one k)[i]? = some (toPk r) := by rw [← HK.out.1, List.getElem?_map, hr]; rfl
                      rw [List.getElem?_eq_getElem h] at h1
                      exact Option.some.inj h1
                    rw [ep (2 * j) p (by omega) (by rw [← hj]; exact HPP.out.1), ep (2 * j + 1) p' (by omega) (by rw [← hj]; exact HPP.out.2)]
                    rfl
                  · exact ((HP.out.2.1.below HB4.out).append (.one hPn)).grown (Kd.R_below HP.out.1 HB4.out) H5.out.2.2.1
                case measure => simp [intOf]; omega
              · have q1 : ¬ (q : Int) + 1 < ln := by omega
                go_wp2_with fail
                go_meet
                case rel =>
                  obtain ⟨j, hj, hm⟩ := HQ.out
                  exact ⟨P, ⟨by rw [hm, Rq.pairsM_end _ _ (by have := HLN.out; omega)], HP.out⟩⟩
          case rest =>
            obtain ⟨P, HP⟩ := hcut
            obtain ⟨A14, c14, rfl⟩ := Kd.R_slice HP.out.2.1
            obtain ⟨np, hnp⟩ : ∃ np, np = P.length := ⟨_, rfl⟩
            rw [← hnp] at HP ⊢
            have hnp2 : np ≤ ln := by
              have h1 : P.length = (pairsM (rowM one k)).length := by rw [← HP.out.1, List.length_map]
              have h2 := HLN.out.2
              rw [Rq.pairsM_length] at h1; omega
            have HNP := Aside0.mk hnp
            clear hnp
            have hC1 : Kd.C (Kd.slice 146 kPg) (wc.alloc (.cells #[.slice (some ⟨g, 0, none⟩) m c8, .slice A14 np c14] 144)) (some ⟨wc.heap.size, 0, none⟩) 2 [L1, P] := by
              have r1 := Kd.R_reads' (Kd.R_below HJ.out.1 HP.out.2.2.2)
              have r2 := Kd.R_reads' HP.out.2.1
              have := HO1.out.2.1
              have := HNP.out
              exact C_two (A1 := some ⟨g, 0, none⟩) (n1 := m) (n2 := np) (by omega) (by omega) (by omega) (by omega) (by rw [← r1.1] at r1; exact r1.2.2) (by rw [← r2.1] at r2; exact r2.2.2)
            have HConc := Aside0.mk (concatPk_calls (c := 2) hC1 (by omega) (by simp; have := HO1.out.2.1; have := HNP.out; omega))
            clear hC1
            have hlen4 : [L1, P].flatten.length = m + np := by simp; have := HO1.out.2.1; have := HNP.out; omega
            have hfl : [L1, P].flatten = L1 ++ P := by simp
            rw [hfl] at HConc hlen4
            have hmap : (L1 ++ P).map toPk = one ++ pairsM (rowM one k) := by rw [List.map_append, HO1.out.1, HP.out.1]
            have hlight : Light (L1 ++ P) := by
              intro p hp
              have h1 : toPk p ∈ rowM one (k + 1) := by
                rw [rowM, (Rq.isort_perm _ _).mem_iff, ← hmap]; exact List.mem_map_of_mem hp
              exact (HBND.out (k + 1) (by omega) _ h1).1
            have hmap2 : (Rq.isort Pg.w (L1 ++ P)).map toPk = rowM one (k + 1) := by
              rw [rowM, ← hmap]; exact (Rq.isort_map toPk Pg.w pkey (fun _ => rfl) _).symm
            have HML := Aside0.mk (And.intro hlen4 (And.intro hlight hmap2))
            clear hlen4 hfl hmap hlight hmap2
            go_wp2_with fail
            refine HConc.out.mono ?_
            rintro e w4 ⟨v4, rfl, hR4, hB4⟩
            have hb4 : Below wc.heap.size wc w4 := (below_alloc (Below.refl _ _) _).trans (hB4.mono (by simp))
            obtain ⟨g4, cap4, hv4, hbg4, _⟩ := Kd.R_form hR4 (by rw [HML.out.1]; omega)
            subst hv4
            have hRis := rising_calls hR4 (by rw [HML.out.1]; omega) HML.out.2.1 (by rw [HML.out.1]; omega)
            rw [HML.out.1] at hRis ⊢
            have HRis := Aside0.mk hRis
            have HB4 := Aside0.mk (And.intro hb4 hB4)
            clear hRis hR4 hB4 hb4 HConc
            go_wp2_with fail
            refine HRis.out.mono ?_
            rintro e w5 ⟨rfl, hR5, hF5⟩
            have hsz : wc.heap.size ≤ (wc.alloc (.cells #[.slice (some ⟨g, 0, none⟩) m c8, .slice A14 np c14] 144)).heap.size := by simp
            have hBc : Below wc.heap.size wc w5 := HB4.out.1.trans ((hF5.lower hsz).to_below HB4.out.1.size)
            have hB5 : Below wo.heap.size wo w5 := HP.out.2.2.2.trans (hBc.mono HP.out.2.2.2.size)
            have hbw := Nat.le_trans HK.out.2.2.2.2.size HP.out.2.2.2.size
            have H5 := Aside0.mk (show Kd.R kPg 146 w5 w.heap.size (fun _ => True) (.slice (some ⟨g4, 0, none⟩) (m + np) cap4) (Rq.isort Pg.w (L1 ++ P)) ∧ AllAt w.heap.size n w5 (Rq.isort Pg.w (L1 ++ P)) ∧ Below wo.heap.size wo w5 ∧ w.heap.size < w5.heap.size from
              ⟨Kd.R_lower hR5 (by simp; omega), ((HJ.out.2.below hB5).append (HP.out.2.2.1.below hBc)).perm (Rq.isort_perm _ _), hB5, Nat.lt_of_lt_of_le hbr hB5.size⟩)
            clear HRis hR5 hF5 hsz hBc hB5 hbw
            go_wp2_with fail
            go_roundw
            case rel =>
              exact ⟨k + 1, Rq.isort Pg.w (L1 ++ P), by omega, by go_num, H5.out.2.2.2, ⟨HML.out.2.2, H5.out.1, H5.out.2.1, Kd.R_below HK.out.2.2.2.1 H5.out.2.2.1, HK.out.2.2.2.2.trans (H5.out.2.2.1.mono HK.out.2.2.2.2.size)⟩, ⟨Kd.R_below HJ.out.1 H5.out.2.2.1, HJ.out.2.below H5.out.2.2.1⟩⟩
            case measure => simp [intOf]; omega
        · have k1 : ¬ (k : Int) < T := by omega
          go_wp2_with fail
          go_meet
          case rel =>
            obtain rfl : k = T := by omega
            exact ⟨Lr, HK⟩
    case rest =>
      obtain ⟨Lr, HL⟩ := hcut
      obtain ⟨ln, hln⟩ : ∃ ln, ln = Lr.length := ⟨_, rfl⟩
      have hlr : ln = (rowM one T).length := by rw [hln, ← HL.out.1, List.length_map]
      have hl2 : 2 * m - 2 ≤ ln := by
        have h1 := ones_used l
        have h2 := HU.out
        have h3 := HO1.out.2.2
        have h4 := HM.out.2
        rw [hlr, ← h3]
        exact Rq.rowM_enough one T (by omega) (by omega)
      have hl3 : ln ≤ 2 * m := by rw [hlr, ← HO1.out.2.2]; exact Rq.rowM_short _ _
      obtain ⟨g2, c13, hv, _⟩ := Kd.R_form HL.out.2.1 (by omega)
      rw [← hln] at hv
      subst hv
      obtain ⟨g7, c7, hv7, hb7, _⟩ := Kd.R_form HL.out.2.2.2.1 (by rw [nn_length]; simpa using hn0)
      have hg7 : g7 = w.heap.size := HL.out.2.2.2.1.1 g7 (by rw [hv7]; rfl)
      subst hg7
      rw [nn_length, List.length_replicate] at hv7
      subst hv7
      obtain ⟨hq1, hq2⟩ := Kd.R_reads' HL.out.2.1
      obtain ⟨m', hm'⟩ : ∃ m', m = m' + 1 := ⟨m - 1, by omega⟩
      obtain ⟨d, hd⟩ : ∃ d, d = 2 * m' := ⟨_, rfl⟩
      have e1 : 2 * ((m' : Int) + 1) - 2 = (d : Int) := by omega
      have e2 : (d : Int) ≤ c13 := by omega
      have e3 : ¬ (d : Int) < 0 := by omega
      have hdl : d ≤ Lr.length := by omega
      have hd6 : d ≤ 576 := by omega
      have hlm : Lr.length = ln := hln.symm
      subst hm'
      have HD := Aside0.mk (And.intro hd (And.intro hlr (And.intro hdl hlm)))
      have hq3 := hq2.1
      clear hd hlr hl2 hl3 hq1 hq2 hln hdl hlm
      go_wp2_with fail
      go_loopw [106] (fun va wr => ∃ a : Nat, va = .int .i64 a ∧ a ≤ d ∧ Aside0 (Kd.R (Kd.int .i64) 3 wr w.heap.size (fun k => k = w.heap.size) (.slice (some ⟨w.heap.size, 0, none⟩) n c7) (nn (sumsM n ((rowM one T).take a))) ∧
        Kd.R kPg 146 wr w.heap.size (fun _ => True) (.slice (some ⟨g2, 0, none⟩) ln c13) Lr ∧ AllAt w.heap.size n wr Lr ∧ Below w.heap.size w wr)) (fun va _ => d - (intOf va).toNat)
      case atStart => exact ⟨0, rfl, Nat.zero_le _, ⟨by rw [List.take_zero, Rq.sumsM_nil]; exact HL.out.2.2.2.1, HL.out.2.1, HL.out.2.2.1, HL.out.2.2.2.2⟩⟩
      case round =>
        obtain ⟨a, rfl, had, HA⟩ := hrel
        by_cases hlt : a < d
        · have a1 : (a : Int) < d := by omega
          obtain ⟨p, hp⟩ : ∃ p, Lr[a]? = some p := ⟨_, List.getElem?_eq_getElem (by have := HD.out; omega)⟩
          obtain ⟨c0, c1⟩ := pk_cells HA.out.2.1 a (by have := HD.out; omega) p hp
          have hpm : p ∈ Lr := List.mem_of_getElem? hp
          have hPA := HA.out.2.2.1 p hpm
          have hpk : (rowM one T)[a]? = some (toPk p) := by rw [← HL.out.1, List.getElem?_map, hp]; rfl
          have hpb : ∀ x ∈ p.many, x ≤ 16384 := (HBND.out T (by omega) (toPk p) (List.mem_of_getElem? hpk)).2
          obtain ⟨pw, pA, pn, pc, pm⟩ := p
          obtain ⟨gp, cp, hvp, hbp, hlp, _⟩ := Kd.R_form hPA.row (by rw [nn_length, hPA.len]; exact hn0)
          have hnp : n = pn := hPA.n.symm
          subst hnp
          injection hvp with hv1 hv2 hv3
          simp only at hv1 hv2 hv3
          subst hv1 hv3
          have HPM := Aside0.mk (And.intro hPA.len (And.intro hpk (And.intro hpb hpm)))
          have hgb : g2 < wr.heap.size := own_parts2 HA.out.2.1
          rename World => wo
          clear hPA hpk hpb hp hpm hv2 hbp hlp
          go_upto_block 8 with fail
          generalize hW1 : World.alloc _ _ = W1
          have hB1 : Below wo.heap.size wo W1 := by rw [← hW1]; exact below_alloc (Below.refl _ _) _
          have H1 := Aside0.mk (And.intro (Kd.R_below HA.out.1 hB1) (And.intro (Kd.R_below HA.out.2.1 hB1) (And.intro (HA.out.2.2.1.below hB1) (HA.out.2.2.2.trans (hB1.mono HA.out.2.2.2.size)))))
          have HS := Aside0.mk (show ∀ x ∈ sumsM n ((rowM one T).take a), x ≤ 10000000 by
            intro x hx
            have h1 := Rq.sumsM_le n ((rowM one T).take a) 16384 (fun q hq y hy => (HBND.out T (by omega) q (List.mem_of_mem_take hq)).2 y hy) x hx
            have h2 : ((rowM one T).take a).length ≤ 576 := by rw [List.length_take]; omega
            have h3 : ((rowM one T).take a).length * 16384 ≤ 576 * 16384 := Nat.mul_le_mul_right _ h2
            omega)
          clear hW1 hB1 c0 c1 hgb
          go_wp2_with fail
          go_loopw [113] (fun vi wr => ∃ i : Nat, vi = .int .i64 i ∧ i ≤ n ∧ Aside0 (Kd.R (Kd.int .i64) 3 wr w.heap.size (fun k => k = w.heap.size) (.slice (some ⟨w.heap.size, 0, none⟩) n c7) (nn (addTo (sumsM n ((rowM one T).take a)) pm i)) ∧
            Kd.R kPg 146 wr w.heap.size (fun _ => True) (.slice (some ⟨g2, 0, none⟩) ln c13) Lr ∧ AllAt w.heap.size n wr Lr ∧ Below w.heap.size w wr)) (fun vi _ => n - (intOf vi).toNat)
          case atStart => exact ⟨0, rfl, Nat.zero_le _, ⟨by rw [addTo_zero]; exact H1.out.1, H1.out.2⟩⟩
          case round =>
            obtain ⟨i, rfl, hi, HI⟩ := hrel
            by_cases hlt2 : i < n
            · have i1 : (i : Int) < n := by omega
              have hll : (sumsM n ((rowM one T).take a)).length = pm.length := by rw [Rq.sumsM_len]; exact HPM.out.1.symm
              have hpl : pm.length = n := HPM.out.1
              obtain ⟨x0, x1⟩ := Kd.R_celln 0 HI.out.1 (i : Int) (by omega) (by omega)
              have hput := fun z => Kd.R_putn HI.out.1 (i : Int) z
              have hPA := HI.out.2.2.1 _ HPM.out.2.2.2
              have hr1 := Kd.R_reads' hPA.row
              rw [← hr1.1] at hr1
              obtain ⟨ad, hA, y0⟩ := Kd.at_int hr1.2.2 (i : Int) (by omega) (by omega)
              cases hA
              rw [rd_nn, Int.toNat_natCast] at y0
              rw [Int.toNat_natCast] at x0 x1
              have ex : rdOf 0 (nn (addTo (sumsM n ((rowM one T).take a)) pm i)) (i : Int) = (((sumsM n ((rowM one T).take a)).getD i 0 : Nat) : Int) := by
                have := rd_nn (addTo (sumsM n ((rowM one T).take a)) pm i) i
                rw [addTo_get _ _ _ hll (by omega)] at this
                exact this
              rw [ex] at x0
              obtain ⟨x, hx⟩ : ∃ x, x = (sumsM n ((rowM one T).take a)).getD i 0 := ⟨_, rfl⟩
              obtain ⟨y, hy⟩ : ∃ y, y = pm.getD i 0 := ⟨_, rfl⟩
              have hx6 : x ≤ 10000000 := by
                rw [hx, List.getD_eq_getElem?_getD, List.getElem?_eq_getElem (by omega)]
                exact HS.out _ (List.getElem_mem _)
              have hy6 : y ≤ 16384 := by
                rw [hy, List.getD_eq_getElem?_getD, List.getElem?_eq_getElem (by omega)]
                exact HPM.out.2.2.1 _ (List.getElem_mem _)
              rw [← hx] at x0
              rw [← hy] at y0
              have y1 : wr.cell? ⟨gp, i, none⟩ = some (.int .i64 (y : Int)) := by
                have e : (⟨gp, 0, none⟩ : Addr).add i = ⟨gp, i, none⟩ := by
                  by_cases h0 : i = 0
                  · subst h0; rfl
                  · simp [Addr.add, h0]
                rw [e] at y0; exact y0
              have HXY := Aside0.mk (And.intro hx (And.intro hy hll))
              have Hput := Aside0.mk hput
              clear hll hpl hput hPA hr1 ex hx hy y0
              go_wp2_with fail
              go_roundw
              case rel =>
                obtain ⟨_, _, hv9, _, _, cells9, hb9⟩ := Kd.R_form HI.out.1 (by rw [nn_length, addTo_len _ _ _ HXY.out.2.2, Rq.sumsM_len]; omega)
                injection hv9 with e9; injection e9 with e9; injection e9 with e9
                rw [← e9] at hb9
                refine ⟨i + 1, by go_num, by omega, ⟨?_, Kd.R_set HI.out.2.1 hb9 (by simp [kPg]) i _, HI.out.2.2.1.far i _, HI.out.2.2.2.setCell (p := ⟨w.heap.size, i, none⟩) (Nat.le_refl _) _⟩⟩
                have h1 := Hput.out ((x : Int) + y)
                rw [Int.toNat_natCast] at h1
                have h2 : (nn (addTo (sumsM n ((rowM one T).take a)) pm i)).set i ((x : Int) + y) = nn (addTo (sumsM n ((rowM one T).take a)) pm (i + 1)) := by
                  rw [← addTo_step _ _ _ HXY.out.2.2 (by rw [Rq.sumsM_len]; omega), ← HXY.out.1, ← HXY.out.2.1]
                  simp [nn, List.map_set]
                rw [h2] at h1
                exact h1
              case measure => simp [intOf]; omega
            · have i1 : ¬ (i : Int) < n := by omega
              go_wp2_with fail
              go_roundw
              case rel =>
                obtain rfl : i = n := by omega
                refine ⟨a + 1, by go_num, by omega, ⟨?_, HI.out.2⟩⟩
                have h1 := HI.out.1
                have hll : (sumsM i ((rowM one T).take a)).length = pm.length := by rw [Rq.sumsM_len]; exact HPM.out.1.symm
                have h2 : addTo (sumsM i ((rowM one T).take a)) pm i = sumsM i ((rowM one T).take (a + 1)) := by
                  have h3 := addTo_all _ _ hll
                  rw [Rq.sumsM_len] at h3
                  rw [h3, List.take_add_one, HPM.out.2.1]
                  exact Rq.sumsM_snoc i _ (pw, pm) HPM.out.1
                rw [h2] at h1
                exact h1
              case measure => simp [intOf]; omega
        · have a1 : ¬ (a : Int) < d := by omega
          go_wp2_with fail
          go_ret2
          obtain rfl : a = d := by omega
          refine ⟨_, rfl, ?_, HA.out.2.2.2⟩
          have h1 := HA.out.1
          rw [Rq.weighM_more l _ (by have := HM.out; omega), Nat.add_sub_cancel, ← HONE.out, ← HM.out.2, ← HN.out, show 2 * (m' + 1) - 2 = a by have := HD.out; omega]
          exact Kd.R_mono h1 (fun _ _ => trivial)
end Go.Proofs.Ythfkjejjndgajaa

/- The lengths of codes for tokens (block.lengths). -/
namespace Go.Proofs.Ythfkjejjndgajaa
open Go.RowKit Go.Proofs.YthfkjejjndgajaaW.PrintWords
open Rq (Tok TokOk litCounts farCounts weighM)

theorem litCounts_len (ts : List Tok) : (litCounts ts).length = 286 := by rw [litCounts, Rq.bump_len, Rq.litTo_len]
theorem farCounts_len (ts : List Tok) : (farCounts ts).length = 30 := Rq.farTo_len _ _
theorem litCounts_le (ts : List Tok) (h : ts.length ≤ 3000) : ∀ x ∈ litCounts ts, x ≤ 1000000 := fun x hx => by
  have := Rq.bump_le _ 256 _ (Rq.litTo_le ts ts.length) x hx; omega
theorem farCounts_le (ts : List Tok) (h : ts.length ≤ 3000) : ∀ x ∈ farCounts ts, x ≤ 1000000 := fun x hx => by
  have := Rq.farTo_le ts ts.length x hx; omega

set_option maxHeartbeats 400000 in
theorem blens_calls {w : World} {A : Option Addr} {n c : Nat} {ts : List Tok} (hr : Kd.C kTok w A n ts) (hn : n ≤ 3000) (hok : ∀ t ∈ ts, TokOk t) :
    Calls Try.prog 38 #[.slice A n c] w fun e w' => ∃ v1 v2, e = .returned (.tuple #[v1, v2]) ∧ Kd.R (Kd.int .i64) 3 w' w.heap.size (fun _ => True) v1 (nn (weighM (litCounts ts) 15)) ∧
      Kd.R (Kd.int .i64) 3 w' w.heap.size (fun _ => True) v2 (nn (weighM (farCounts ts) 15)) ∧ Below w.heap.size w w' := by
  have hl : ts.length ≤ 3000 := by have := hr.1; omega
  have HCo := Aside0.mk (counts_calls (c := c) hr hn hok)
  clear hr hok
  go_enter Try.func38, Try.ntmps38
  go_wp2_with fail
  refine HCo.out.mono ?_
  rintro e w1 ⟨v1, v2, rfl, hR1, hR2, hB⟩
  obtain ⟨A1, c1, rfl⟩ := Kd.R_slice hR1
  obtain ⟨A2, c2, rfl⟩ := Kd.R_slice hR2
  rw [nn_length, litCounts_len] at hR1 ⊢
  rw [nn_length, farCounts_len] at hR2 ⊢
  have hc1 := (Kd.R_reads' hR1).2.2
  have hc2 := (Kd.R_reads' hR2).2.2
  rw [nn_length, litCounts_len] at hc1
  rw [nn_length, farCounts_len] at hc2
  have hu1 := used_le (litCounts ts)
  have hu2 := used_le (farCounts ts)
  rw [litCounts_len] at hu1
  rw [farCounts_len] at hu2
  have HL1 := Aside0.mk (lengths_calls (c := c1) hc1 (by decide) (litCounts_le ts hl) 15 15 rfl (by decide) (by decide) (by omega))
  have H1 := Aside0.mk (And.intro hc2 (And.intro hB (And.intro hu2 hl)))
  clear hR1 hR2 hB hc1 hc2 hu1 hu2 HCo hl
  go_wp2_with fail
  refine HL1.out.mono ?_
  rintro e w2 ⟨v3, rfl, hR3, hB3⟩
  have HL2 := Aside0.mk (lengths_calls (c := c2) (Kd.C_below H1.out.1 hB3) (by decide) (farCounts_le ts H1.out.2.2.2) 15 15 rfl (by decide) (by decide) (by have := H1.out.2.2.1; omega))
  have H3 := Aside0.mk (And.intro hR3 hB3)
  clear hR3 hB3 HL1
  go_wp2_with fail
  refine HL2.out.mono ?_
  rintro e w3 ⟨v4, rfl, hR4, hB4⟩
  have H4 := Aside0.mk (And.intro hR4 hB4)
  clear hR4 hB4 HL2
  go_wp2_with fail
  go_ret2
  have hs1 := H1.out.2.1.size
  have hs2 := H3.out.2.size
  exact ⟨_, _, rfl, Kd.R_lower (Kd.R_below H3.out.1 H4.out.2) hs1, Kd.R_lower H4.out.1 (Nat.le_trans hs1 hs2), H1.out.2.1.trans ((H3.out.2.trans (H4.out.2.mono hs2)).mono hs1)⟩
end Go.Proofs.Ythfkjejjndgajaa
