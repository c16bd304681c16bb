/- MWeigh: Both, Concat, Counts. -/
import Derived.Test.YthfkjejjndgajaaMStab
import Derived.Test.YthfkjejjndgajaaPlainA
import Derived.Test.YthfkjejjndgajaaWZeros
import Derived.Test.YthfkjejjndgajaaMBase
import Derived.Deep.DeepCutAuto
import Derived.Deep.CutBlock
import Derived.Deep.RegionHeld3
/- Two packs together (weigh.both). -/
namespace Go.Proofs.Ythfkjejjndgajaa
open Go.RowKit Go.Proofs.YthfkjejjndgajaaW.PrintWords

/-- Sums place by place, of the first i places. -/
def addTo (a b : List Nat) (i : Nat) : List Nat := List.zipWith (· + ·) (a.take i) (b.take i) ++ a.drop i
theorem addTo_zero (a b : List Nat) : addTo a b 0 = a := by simp [addTo]
theorem addTo_len (a b : List Nat) (i : Nat) (h : a.length = b.length) : (addTo a b i).length = a.length := by
  simp [addTo]; omega
theorem addTo_all (a b : List Nat) (h : a.length = b.length) : addTo a b a.length = List.zipWith (· + ·) a b := by
  simp [addTo, List.take_of_length_le (show b.length ≤ a.length by omega)]
theorem addTo_get (a b : List Nat) (i : Nat) (h : a.length = b.length) (hi : i < a.length) : (addTo a b i).getD i 0 = a.getD i 0 := by
  unfold addTo
  rw [List.getD_eq_getElem?_getD, List.getElem?_append_right (by simp; omega), List.getElem?_drop, List.getD_eq_getElem?_getD]
  congr 2
  simp; omega
theorem addTo_step (a b : List Nat) (i : Nat) (h : a.length = b.length) (hi : i < a.length) : (addTo a b i).set i (a.getD i 0 + b.getD i 0) = addTo a b (i + 1) := by
  unfold addTo
  have l1 : (List.zipWith (· + ·) (a.take i) (b.take i)).length = i := by simp; omega
  have ea : a.drop i = a[i] :: a.drop (i + 1) := List.drop_eq_getElem_cons hi
  have e1 : a.take (i + 1) = a.take i ++ [a[i]] := by rw [List.take_succ_eq_append_getElem hi]
  have e2 : b.take (i + 1) = b.take i ++ [b[i]'(by omega)] := by rw [List.take_succ_eq_append_getElem (by omega)]
  rw [List.set_append_right _ _ (by omega), l1, Nat.sub_self, ea, List.set_cons_zero, e1, e2, List.zipWith_append (by simp; omega)]
  simp [List.getD_eq_getElem?_getD, hi, show i < b.length by omega]

set_option maxHeartbeats 1000000 in
theorem both_calls {w : World} (p q : Pg) (hp : Kd.C (Kd.int .i64) w p.A p.n (nn p.many)) (hq : Kd.C (Kd.int .i64) w q.A q.n (nn q.many)) (hpn : p.n = p.many.length) (hqn : q.n = q.many.length)
    (hl : p.many.length = q.many.length) (hN : p.many.length ≤ 1000000) (hwp : p.w ≤ 1000000000000) (hwq : q.w ≤ 1000000000000) (hsp : ∀ x ∈ p.many, x ≤ 1000000) (hsq : ∀ x ∈ q.many, x ≤ 1000000) :
    Calls Try.prog 92 #[.agg #[.int .i64 (p.w : Int), .slice p.A p.n p.c], .agg #[.int .i64 (q.w : Int), .slice q.A q.n q.c]] w fun e w' =>
      ∃ v, e = .returned (.agg #[.int .i64 ((p.w + q.w : Nat) : Int), v]) ∧ Kd.R (Kd.int .i64) 3 w' w.heap.size (fun _ => True) v (nn (List.zipWith (· + ·) p.many q.many)) ∧ Below w.heap.size w w' := by
  have HP := Aside0.mk (And.intro hp (And.intro hq (And.intro hl (And.intro hsp hsq))))
  obtain ⟨u, hu⟩ : ∃ u, u = p.w := ⟨_, rfl⟩
  obtain ⟨v, hv⟩ : ∃ v, v = q.w := ⟨_, rfl⟩
  obtain ⟨pa, hpa⟩ : ∃ x, x = p.A := ⟨_, rfl⟩
  obtain ⟨qa, hqa⟩ : ∃ x, x = q.A := ⟨_, rfl⟩
  obtain ⟨n, hnn⟩ : ∃ n, n = p.n := ⟨_, rfl⟩
  obtain ⟨m, hmm⟩ : ∃ n, n = q.n := ⟨_, rfl⟩
  rw [← hu] at hwp ⊢
  rw [← hv] at hwq ⊢
  rw [← hpa, ← hnn] at HP
  rw [← hqa, ← hmm] at HP
  rw [← hpa, ← hqa, ← hnn, ← hmm]
  have hnm : n = m := by omega
  have hn6 : n ≤ 1000000 := by omega
  have HN := Aside0.mk (And.intro hnn (And.intro hmm (And.intro hpn hqn)))
  subst hnm
  clear hp hq hl hsp hsq hu hv hpa hqa hnn hmm hpn hqn hN
  go_enter Try.func92, Try.ntmps92
  go_wp2_with fail
  refine (cloneI_calls (Kd.C_below HP.out.1 (below_alloc (below_alloc (below_alloc (Below.refl _ _) _) _) _)) hn6).mono ?_
  rintro e w1 ⟨v1, rfl, hR1, hB1⟩
  obtain ⟨A1, c1, hv1⟩ := Kd.R_slice hR1
  have hl1 : (nn p.many).length = n := by rw [nn_length]; have := HN.out; omega
  rw [hl1] at hv1
  subst hv1
  have hsz : w.heap.size + 3 ≤ w1.heap.size := by have := hB1.size; simpa using this
  have hbase : (((w.alloc (Obj.cells #[Value.int IntKind.i64 (u : Int), Value.slice pa n p.c] 146)).alloc (Obj.cells #[Value.int IntKind.i64 (v : Int), Value.slice qa n q.c] 146)).alloc (Obj.cells #[Value.int IntKind.i64 0, Value.slice none 0 0] 146)).heap.size = w.heap.size + 3 := by simp
  rw [hbase] at hR1 hB1
  have c0 : w1.cell? ⟨w.heap.size, 0, none⟩ = some (.int .i64 (u : Int)) := by rw [hB1.cell (p := ⟨w.heap.size, 0, none⟩) (by simp only []; omega)]; simp [go_sem]
  have c0' : w1.cell? ⟨w.heap.size, 1, none⟩ = some (.slice pa n p.c) := by rw [hB1.cell (p := ⟨w.heap.size, 1, none⟩) (by simp only []; omega)]; simp [go_sem]
  have d0 : w1.cell? ⟨w.heap.size + 1, 0, none⟩ = some (.int .i64 (v : Int)) := by rw [hB1.cell (p := ⟨w.heap.size + 1, 0, none⟩) (by simp only []; omega)]; simp [go_sem]
  have d0' : w1.cell? ⟨w.heap.size + 1, 1, none⟩ = some (.slice qa n q.c) := by rw [hB1.cell (p := ⟨w.heap.size + 1, 1, none⟩) (by simp only []; omega)]; simp [go_sem]
  have e0 : w1.cell? ⟨w.heap.size + 2, 0, none⟩ = some (.int .i64 0) := by rw [hB1.cell (p := ⟨w.heap.size + 2, 0, none⟩) (by simp only []; omega)]; simp [go_sem]
  have e1 : w1.cell? ⟨w.heap.size + 2, 1, none⟩ = some (.slice none 0 0) := by rw [hB1.cell (p := ⟨w.heap.size + 2, 1, none⟩) (by simp only []; omega)]; simp [go_sem]
  have f0 : w1.frozen? ⟨w.heap.size + 2, 0, none⟩ = false := by rw [hB1.frozen (p := ⟨w.heap.size + 2, 0, none⟩) (by simp only []; omega)]; simp [go_sem]
  have f1 : w1.frozen? ⟨w.heap.size + 2, 1, none⟩ = false := by rw [hB1.frozen (p := ⟨w.heap.size + 2, 1, none⟩) (by simp only []; omega)]; simp [go_sem]
  have hBw : Below w.heap.size w w1 := (below_alloc (below_alloc (below_alloc (Below.refl _ _) _) _) _).trans (hB1.mono (by omega))
  have HR1 := Aside0.mk hR1
  have HB1 := Aside0.mk hBw
  clear hR1 hB1 hbase hl1 hBw
  go_wp2_with fail
  go_loopw [14] (fun vk wr => ∃ k : Nat, k ≤ n ∧ vk = .int .i64 k ∧ Aside0 (Kd.R (Kd.int .i64) 3 wr (w.heap.size + 3) (fun _ => True) (.slice A1 n c1) (nn (addTo p.many q.many k)) ∧ Below (w.heap.size + 3) w1 wr)) (fun vk _ => n - (intOf vk).toNat)
  case atStart => exact ⟨0, Nat.zero_le _, rfl, ⟨by rw [addTo_zero]; exact HR1.out, Below.refl _ _⟩⟩
  case round =>
    obtain ⟨k, hk, rfl, HK⟩ := hrel
    by_cases hlt : k < n
    · have hlen : (nn (addTo p.many q.many k)).length = n := by rw [nn_length, addTo_len _ _ _ HP.out.2.2.1]; have := HN.out; omega
      obtain ⟨g, cap, hv, hbg, hgl, _⟩ := Kd.R_form HK.out.1 (by omega)
      rw [hlen] at hv
      cases hv
      obtain ⟨x0, x1⟩ := Kd.R_celln 0 HK.out.1 (k : Int) (by omega) (by omega)
      have hput := fun z => Kd.R_putn HK.out.1 (k : Int) z
      rw [Int.toNat_natCast] at x0 x1
      have hbq : Below w.heap.size w wr := HB1.out.trans (HK.out.2.mono (by omega))
      obtain ⟨ad, hA, y0⟩ := Kd.at_int (Kd.C_below HP.out.2.1 hbq) (k : Int) (by omega) (by omega)
      cases hA
      rw [rd_nn, Int.toNat_natCast] at y0
      have ex : rdOf 0 (nn (addTo p.many q.many k)) (k : Int) = ((p.many.getD k 0 : Nat) : Int) := by
        have := rd_nn (addTo p.many q.many k) k
        rw [addTo_get _ _ _ HP.out.2.2.1 (by have := HN.out; omega)] at this
        exact this
      rw [ex] at x0
      obtain ⟨x, hx⟩ : ∃ x, x = p.many.getD k 0 := ⟨_, rfl⟩
      obtain ⟨y, hy⟩ : ∃ y, y = q.many.getD k 0 := ⟨_, rfl⟩
      have hx6 : x ≤ 1000000 := by
        rw [hx, List.getD_eq_getElem?_getD, List.getElem?_eq_getElem (by have := HN.out; omega)]
        exact HP.out.2.2.2.1 _ (List.getElem_mem _)
      have hy6 : y ≤ 1000000 := by
        rw [hy, List.getD_eq_getElem?_getD, List.getElem?_eq_getElem (by have := HN.out; have := HP.out.2.2.1; omega)]
        exact HP.out.2.2.2.2 _ (List.getElem_mem _)
      rw [← hx] at x0
      rw [← hy] at y0
      have HXY := Aside0.mk (And.intro hx hy)
      have k1 : (k : Int) < n := by omega
      have k2 : IntKind.i64.wrap ((x : Int) + y) = (x : Int) + y := IntWalk.i64_in _ (by omega)
      have Hput := Aside0.mk hput
      clear hlen ex hx hy hput hbq
      go_wp2_with fail
      go_roundw
      case rel =>
        refine ⟨k + 1, by omega, by go_num, ⟨?_, HK.out.2.setCell (p := ⟨g, k, none⟩) hbg _⟩⟩
        have h1 := Hput.out ((x : Int) + y)
        rw [Int.toNat_natCast] at h1
        have h2 : (nn (addTo p.many q.many k)).set k ((x : Int) + y) = nn (addTo p.many q.many (k + 1)) := by
          rw [← addTo_step _ _ _ HP.out.2.2.1 (by have := HN.out; omega), ← HXY.out.1, ← HXY.out.2]
          simp [nn, List.map_set]
        rw [h2] at h1
        exact h1
      case measure => simp [intOf]; omega
    · have hb := HK.out.2
      replace c0 := (hb.cell (p := ⟨w.heap.size, 0, none⟩) (by simp only []; omega)).trans c0
      replace d0 := (hb.cell (p := ⟨w.heap.size + 1, 0, none⟩) (by simp only []; omega)).trans d0
      replace e0 := (hb.cell (p := ⟨w.heap.size + 2, 0, none⟩) (by simp only []; omega)).trans e0
      replace e1 := (hb.cell (p := ⟨w.heap.size + 2, 1, none⟩) (by simp only []; omega)).trans e1
      replace f0 := (hb.frozen (p := ⟨w.heap.size + 2, 0, none⟩) (by simp only []; omega)).trans f0
      replace f1 := (hb.frozen (p := ⟨w.heap.size + 2, 1, none⟩) (by simp only []; omega)).trans f1
      clear hb
      go_wp2_with fail
      obtain rfl : k = n := by omega
      refine bodyPost_ret (v := .agg #[.int .i64 ((u + v : Nat) : Int), .slice A1 k c1]) ?_ rfl ⟨.slice A1 k c1, rfl, ?_, ?_⟩
      · simp [results, Try.results92, go_sem, e0, e1]
      · have h1 := HK.out.1
        have hkl : k = p.many.length := by have := HN.out; omega
        rw [hkl, addTo_all _ _ HP.out.2.2.1, ← hkl] at h1
        exact Kd.R_lower (Kd.R_mono (Kd.R_far (p := ⟨w.heap.size + 2, 1, none⟩) (Kd.R_far (p := ⟨w.heap.size + 2, 0, none⟩) (Kd.R_bound h1) (fun j hj => by have := hj.2.1; simp only []; omega) _) (fun j hj => by have := hj.2.1; simp only []; omega) _) (fun _ _ => trivial)) (by omega)
      · exact ((HB1.out.trans (HK.out.2.mono (by omega))).setCell (p := ⟨w.heap.size + 2, 0, none⟩) (by simp only []; omega) _).setCell (p := ⟨w.heap.size + 2, 1, none⟩) (by simp only []; omega) _
end Go.Proofs.Ythfkjejjndgajaa

/- slices.Grow and slices.Concat of packs. -/
namespace Go.Proofs.Ythfkjejjndgajaa
open Go.RowKit Go.Proofs.YthfkjejjndgajaaW.PrintWords

/-- A row cut down to nothing, its room kept. -/
theorem R_cut0 {α : Type} {d : Kd α} {e : Nat} {w : World} {base g n cap : Nat} {ok : Nat → Prop} {xs : List α} (h : d.R e w base ok (.slice (some ⟨g, 0, none⟩) n cap) xs) : d.R e w base ok (.slice (some ⟨g, 0, none⟩) 0 cap) [] := by
  obtain ⟨h0, inner, hown, hr⟩ := h
  rcases hown.2 with ⟨hv, hz⟩ | ⟨g', cap', cur, hv, hb, hh, hn, hm, hs, ht⟩
  · cases hv
  · injection hv with e1 e2 e3
    injection e1 with e1
    injection e1 with e1
    subst e1 e3
    exact ⟨h0, [], ⟨by simp, .inr ⟨g, cap, cur, rfl, hb, hh, Nat.zero_le _, hm, hs, by simp⟩⟩, Reps.none _ _⟩
def zPg : Pg := ⟨0, none, 0, 0, []⟩

set_option maxHeartbeats 400000 in
theorem growPk_calls (w : World) (n : Nat) (z : Int) (hz : z = n) (hn : n ≤ 1000000) :
    Calls Try.prog 108 #[.slice none 0 0, .int .i64 z] w fun e w' => ∃ v, e = .returned v ∧ Kd.R kPg 146 w' w.heap.size (fun _ => True) v [] ∧ Below w.heap.size w w' := by
  subst hz
  by_cases h0 : n = 0
  · subst h0
    go_enter Try.func108, Try.ntmps108
    go_wp2_with fail
    go_ret
    exact ⟨_, rfl, Kd.R_nil _ _ _ _ _, Below.refl _ _⟩
  · have h1 : (0 : Int) < n := by omega
    go_enter Try.func108, Try.ntmps108
    go_wp2_with (first
      | (at_builtin
         go_must (refine Kd.R_append_zeros kPg (w0 := w) w.heap.size rfl (.tmp 20) (.tmp 21) 144 3 146 (.agg #[.int .i64 0, .slice none 0 0]) 32 rfl Try.underlying144 Try.underlying3 info_pk rfl (by decide) (by decide) (.slice none 0 0) [] zPg (n : Int) (fun _ => True) rfl rfl rfl (fun _ _ => trivial) (Kd.R_nil _ _ _ _ _) (by omega) (Below.refl _ _) (Nat.le_refl _) (by simp; omega) ?_)
         intro v1 w1 HO1 HB1 hg1 hat1
         obtain ⟨g, cap, hv1, hbg, hgl, _⟩ := Kd.R_form HO1 (by simp; omega)
         have hl1 : ([] ++ List.replicate (n : Int).toNat zPg).length = n := by simp
         rw [hl1] at hv1
         subst hv1
         have HO := Aside0.mk (R_cut0 HO1)
         clear HO1 hl1))
    go_ret
    exact ⟨_, rfl, HO.out, HB1⟩

/-- One of the rows in a row of rows. -/
theorem at_row {α : Type} {d : Kd α} {e : Nat} {w : World} {B : Option Addr} {m : Nat} {ls : List (List α)} (h : Kd.C (Kd.slice e d) w B m ls) (k : Nat) (hk : k < m) :
    ∃ ad A c, B = some ad ∧ w.cell? (ad.add k) = some (.slice A (ls.getD k []).length c) ∧ (ls.getD k []).length ≤ c ∧ Kd.C d w A (ls.getD k []).length (ls.getD k []) := by
  obtain ⟨ad, cs, hB, hlen, hR, hcell⟩ := ReadsRow.get_ h [] (k : Int) (by omega) (by omega)
  rw [Int.toNat_natCast] at hR hcell
  obtain ⟨A, c, rfl, hlc, hC⟩ := hR
  refine ⟨ad, A, c, hB, ?_, hlc, hC⟩
  have := hcell 0 _ rfl
  simpa [Kd.slice] using this

def lenTo {α : Type} (ls : List (List α)) (k : Nat) : Nat := ((ls.take k).map List.length).sum
theorem lenTo_succ {α : Type} (ls : List (List α)) (k : Nat) (h : k < ls.length) : lenTo ls (k + 1) = lenTo ls k + (ls.getD k []).length := by
  unfold lenTo
  rw [List.take_succ_eq_append_getElem h, List.map_append, List.sum_append]
  congr 1
  simp [List.getD_eq_getElem?_getD, h]
theorem lenTo_le {α : Type} (ls : List (List α)) (k : Nat) : lenTo ls k ≤ ls.flatten.length := by
  unfold lenTo
  rw [List.length_flatten]
  induction ls generalizing k with
  | nil => simp
  | cons l ls ih =>
    cases k with
    | zero => simp
    | succ k => simp only [List.take_succ_cons, List.map_cons, List.sum_cons]; have := ih k; omega
theorem flat_take_succ {α : Type} (ls : List (List α)) (k : Nat) (h : k < ls.length) : (ls.take (k + 1)).flatten = (ls.take k).flatten ++ ls.getD k [] := by
  rw [List.take_succ_eq_append_getElem h, List.flatten_append]
  simp [List.getD_eq_getElem?_getD, h]
theorem flat_take_len {α : Type} (ls : List (List α)) (k : Nat) : (ls.take k).flatten.length = lenTo ls k := by
  unfold lenTo; rw [List.length_flatten]

set_option maxHeartbeats 1000000 in
theorem concatPk_calls {w : World} {B : Option Addr} {m c : Nat} {ls : List (List Pg)} (hr : Kd.C (Kd.slice 146 kPg) w B m ls) (hm : m ≤ 1000) (htot : ls.flatten.length ≤ 1000000) :
    Calls Try.prog 93 #[.slice B m c] w fun e w' => ∃ v, e = .returned v ∧ Kd.R kPg 146 w' w.heap.size (fun _ => True) v ls.flatten ∧ Below w.heap.size w w' := by
  have HC := Aside0.mk hr
  have HL := Aside0.mk hr.1
  have HT := Aside0.mk htot
  clear hr htot
  go_enter Try.func93, Try.ntmps93
  go_wp2_with fail
  go_loop [3, 11] (fun vs vk => ∃ k s : Nat, vk = .int .i64 k ∧ vs = .int .i64 s ∧ k ≤ m ∧ s ≤ 1000000 ∧ Aside0 (s = lenTo ls k)) (fun _ vk => m - (intOf vk).toNat)
  case atStart => exact ⟨0, 0, rfl, rfl, Nat.zero_le _, by omega, ⟨by simp [lenTo]⟩⟩
  case round =>
    obtain ⟨k, s, rfl, rfl, hk, hs6, HS⟩ := hrel
    by_cases hlt : k < m
    · obtain ⟨ad, A, c1, hB, hcell, hlc, hC⟩ := at_row HC.out k hlt
      cases hB
      obtain ⟨n, hn⟩ : ∃ n, n = (ls.getD k []).length := ⟨_, rfl⟩
      rw [← hn] at hcell
      have hsn : s + n ≤ 1000000 := by
        have h1 := lenTo_succ ls k (by have := HL.out; omega)
        have h2 := lenTo_le ls (k + 1)
        have := HS.out; have := HT.out; omega
      have HN := Aside0.mk hn
      have k1 : (k : Int) < m := by omega
      have k2 : ¬ (s : Int) + n < 0 := by omega
      clear hn hC hlc
      go_wp2_with fail
      go_round
      case rel => exact ⟨k + 1, s + n, by go_num, by go_num, by omega, hsn, ⟨by rw [lenTo_succ ls k (by have := HL.out; omega), ← HN.out, HS.out]⟩⟩
      case measure => simp [intOf]; omega
    · have k1 : ¬ (k : Int) < m := by omega
      go_wp2_with fail
      refine (growPk_calls w s _ rfl hs6).mono ?_
      rintro e w1 ⟨v1, rfl, hR1, hB1⟩
      have H1 := Aside0.mk (And.intro hR1 hB1)
      clear hR1 hB1 hlt k1
      go_wp2_with fail
      go_loopw [6, 27] (fun v6 vk wr => ∃ k : Nat, k ≤ m ∧ vk = .int .i64 k ∧ Aside0 (Kd.R kPg 146 wr w.heap.size (fun _ => True) v6 (ls.take k).flatten ∧ Below w.heap.size w wr)) (fun _ vk _ => m - (intOf vk).toNat)
      case atStart => exact ⟨0, Nat.zero_le _, rfl, ⟨by simpa using H1.out.1, H1.out.2⟩⟩
      case round =>
        obtain ⟨j, hj, rfl, HJ⟩ := hrel
        by_cases hlt2 : j < m
        · obtain ⟨ad, A, c1, hB, hcell, hlc, hC⟩ := at_row (Kd.C_below HC.out HJ.out.2) j hlt2
          cases hB
          obtain ⟨n, hn⟩ : ∃ n, n = (ls.getD j []).length := ⟨_, rfl⟩
          rw [← hn] at hcell hC
          have k1 : (j : Int) < m := by omega
          have HCC := Aside0.mk hC
          have HN := Aside0.mk hn
          have hbound := Aside0.mk (show ((ls.take j).flatten.length + n) * 32 ≤ 140737488355328 by
            rw [flat_take_len]
            have h1 := lenTo_succ ls j (by have := HL.out; omega)
            have h2 := lenTo_le ls (j + 1)
            have := HT.out; omega)
          clear hn hC hlc
          go_wp2_with (first
            | (at_builtin
               go_must (refine Kd.R_append_rows kPg (w0 := w) w.heap.size rfl (.tmp 31) (.tmp 32) 144 146 (.agg #[.int .i64 0, .slice none 0 0]) 32 rfl Try.underlying144 info_pk rfl (by decide) (by decide) _ (ls.take j).flatten (ls.getD j []) A n c1 (fun _ => True) (fun _ => False) rfl rfl HJ.out.1 HCC.out (fun x cs h => h) (fun _ h => h.elim) (fun _ _ => trivial) HJ.out.2 HJ.out.2.size hbound.out ?_)
               intro v2 w2 HO2 HB2 hg2 hat2
               have H2 := Aside0.mk (And.intro HO2 HB2)
               clear HO2 HB2 hg2 hat2))
          go_roundw
          case rel => exact ⟨j + 1, by omega, by go_num, ⟨by rw [flat_take_succ ls j (by have := HL.out; omega)]; exact H2.out.1, H2.out.2⟩⟩
          case measure => simp [intOf]; omega
        · have k1 : ¬ (j : Int) < m := by omega
          go_wp2_with fail
          go_ret
          have h1 := HJ.out
          rw [List.take_of_length_le (by have := HL.out; omega)] at h1
          exact ⟨_, rfl, h1.1, h1.2⟩
end Go.Proofs.Ythfkjejjndgajaa

/- How often each symbol is in tokens (block.counts). -/
namespace Go.Proofs.Ythfkjejjndgajaa
open Go.RowKit Go.Proofs.YthfkjejjndgajaaW.PrintWords Go.Proofs.Ythfkjejjndgajaa.Psymbol
open Rq (Tok TokOk litTo farTo litCounts farCounts symS symF bump)

def encT (t : Tok) : List Value := [.int .u8 (t.b : Int), .int .i64 (t.same : Int), .int .i64 (t.far : Int)]
/-- The kind of a token. -/
def kTok : Kd Tok where
  sz := 3
  E := []
  K := fun _ x cs => cs = encT x
  M := fun _ _ _ x cs => cs = encT x
  K_len := fun h => by rw [h]; rfl
  K_one := fun h u hu => by
    rw [h] at hu
    simp only [encT, List.mem_cons, List.not_mem_nil, or_false] at hu
    rcases hu with rfl | rfl | rfl <;> rfl
  K_below := fun _ h => h
  K_of_M := fun h => h
  M_mono := fun _ h => h
  M_bound := fun h => h
  M_move := fun _ h => h
  M_lower := fun _ h => h
theorem kTok_heap : Kd.Heap kTok := ⟨fun _ h => h⟩
theorem tok_cells {w : World} {A : Option Addr} {n : Nat} {ts : List Tok} (h : Kd.C kTok w A n ts) (i : Nat) (hi : i < n) (t : Tok) (ht : ts[i]? = some t) :
    ∃ ad, A = some ad ∧ w.cell? (ad.add (i * 3)) = some (.int .u8 (t.b : Int)) ∧ w.cell? ⟨(ad.add (i * 3)).block, (ad.add (i * 3)).off + 1, none⟩ = some (.int .i64 (t.same : Int)) ∧ w.cell? ⟨(ad.add (i * 3)).block, (ad.add (i * 3)).off + 2, none⟩ = some (.int .i64 (t.far : Int)) := by
  obtain ⟨ad, c, e, _, hK, hc⟩ := Kd.C_get h t (i : Int) (by omega) (by omega)
  rw [Int.toNat_natCast] at hK hc
  have e2 : ts.getD i t = t := by rw [List.getD_eq_getElem?_getD, ht]; rfl
  rw [e2] at hK
  have hK' : c = encT t := hK
  subst hK'
  exact ⟨ad, e, hc 0 _ rfl, by rw [← add_field _ _ 1 (by omega)]; exact hc 1 _ rfl, by rw [← add_field _ _ 2 (by omega)]; exact hc 2 _ rfl⟩

/-- A row of so many numbers that has just been made. -/
def mk0 (n : Nat) : Obj := .cells (madeCells (Value.int .i64 0).cells (n * 1)) 3
theorem make_int (W : World) (n : Nat) (z : Int) (hz : z = n) (hn : n ≤ 100000) : (Instr.makeSlice 30 (.int .i64 z) (.int .i64 z)).run Try.prog W = .ok (.slice (some ⟨W.heap.size, 0, none⟩) n n) (W.alloc (mk0 n)) := by
  subst hz
  obtain ⟨i0, hi, hz0, hz1, hz2⟩ := info_parts info_int
  have h := run_make (P := Try.prog) W 30 3 i0 _ Try.underlying30 hi hz0 .i64 .i64 (n : Int) (n : Int) (by omega) (by omega) (by rw [hz2]; omega) (by omega)
  rw [Int.toNat_natCast, hz1] at h
  exact h
theorem R_mk0 (W : World) (n base : Nat) (hb : base ≤ W.heap.size) (hn : n ≤ 100000) : Kd.R (Kd.int .i64) 3 (W.alloc (mk0 n)) base (fun k => k = W.heap.size) (.slice (some ⟨W.heap.size, 0, none⟩) n n) (nn (List.replicate n 0)) := by
  have e : nn (List.replicate n 0) = List.replicate n (0 : Int) := by simp [nn]
  rw [e]
  have hs : (madeCells (Value.int .i64 0).cells (n * 1)).size = n * 1 := by simp [madeCells]
  refine ⟨fun k hk => by cases hk; rfl, (madeCells (Value.int .i64 0).cells (n * 1)).toList, ⟨?_, .inr ⟨W.heap.size, n, _, ?_, hb, heap_alloc_new W _, ?_, by unfold maxLen; omega, ?_, ?_⟩⟩, Kd.reps_made (z := .int .i64 0) (z0 := (0 : Int)) rfl (by decide) rfl n⟩
  · rw [Array.length_toList, hs, List.length_replicate]; rfl
  · rw [List.length_replicate]
  · rw [List.length_replicate]; exact Nat.le_refl _
  · exact hs
  · rw [List.take_of_length_le]
    rw [Array.length_toList, hs, List.length_replicate]; exact Nat.le_refl _

theorem bump_cells {W : World} {base g n cap : Nat} {ok : Nat → Prop} {l : List Nat} (h : Kd.R (Kd.int .i64) 3 W base ok (.slice (some ⟨g, 0, none⟩) n cap) (nn l)) (i : Nat) (hi : i < n) :
    W.cell? ⟨g, i, none⟩ = some (.int .i64 ((l.getD i 0 : Nat) : Int)) ∧ W.frozen? ⟨g, i, none⟩ = false := by
  obtain ⟨x0, x1⟩ := Kd.R_celln 0 h (i : Int) (by omega) (by omega)
  rw [Int.toNat_natCast] at x0 x1
  have e : rdOf 0 (nn l) (i : Int) = ((l.getD i 0 : Nat) : Int) := rd_nn l i
  rw [e] at x0
  exact ⟨x0, x1⟩
theorem R_bump {W : World} {base g n cap : Nat} {ok : Nat → Prop} {l : List Nat} (h : Kd.R (Kd.int .i64) 3 W base ok (.slice (some ⟨g, 0, none⟩) n cap) (nn l)) (i x : Nat) (hx : x = l.getD i 0) :
    Kd.R (Kd.int .i64) 3 (W.setCell ⟨g, i, none⟩ (.int .i64 ((x : Int) + 1))) base ok (.slice (some ⟨g, 0, none⟩) n cap) (nn (bump l i)) := by
  have h1 := Kd.R_putn h (i : Int) ((x : Int) + 1)
  rw [Int.toNat_natCast] at h1
  have e : (nn l).set i ((x : Int) + 1) = nn (bump l i) := by
    subst hx
    simp [nn, bump, List.map_set]
  rw [e] at h1
  exact h1

set_option maxHeartbeats 1000000 in
set_option maxRecDepth 100000 in
theorem counts_calls {w : World} {A : Option Addr} {n c : Nat} {ts : List Tok} (hr : Kd.C kTok w A n ts) (hn : n ≤ 3000) (hok : ∀ t ∈ ts, TokOk t) :
    Calls Try.prog 61 #[.slice A n c] w fun e w' => ∃ v1 v2, e = .returned (.tuple #[v1, v2]) ∧ Kd.R (Kd.int .i64) 3 w' w.heap.size (fun _ => True) v1 (nn (litCounts ts)) ∧
      Kd.R (Kd.int .i64) 3 w' w.heap.size (fun _ => True) v2 (nn (farCounts ts)) ∧ Below w.heap.size w w' := by
  have HC := Aside0.mk hr
  have hl := hr.1
  have HL := Aside0.mk hl
  have HK := Aside0.mk hok
  clear hr hok hl
  go_enter Try.func61, Try.ntmps61
  go_upto_region 1 with fail
  go_cut [2, 3] (fun v2 v3 wx => ∃ b1 b2 : Nat, v2 = .slice (some ⟨b1, 0, none⟩) 286 286 ∧ v3 = .slice (some ⟨b2, 0, none⟩) 30 30 ∧ Aside0 (b1 ≠ b2 ∧ Below w.heap.size w wx ∧
    Kd.R (Kd.int .i64) 3 wx w.heap.size (fun k => k = b1) v2 (nn (List.replicate 286 0)) ∧ Kd.R (Kd.int .i64) 3 wx w.heap.size (fun k => k = b2) v3 (nn (List.replicate 30 0))))
  case first =>
    have m1 := fun W => make_int W 286 286 rfl (by decide)
    have m2 := fun W => make_int W 30 30 rfl (by decide)
    go_region
    all_goals (go_wp2_with fail; go_meet)
    case rel =>
      refine ⟨_, _, rfl, rfl, ⟨by omega, ?_, ?_, ?_⟩⟩
      · exact below_drew1 (below_alloc (below_alloc (Below.refl _ _) _) _)
      · exact Kd.R_drew (Kd.R_alloc (R_mk0 w 286 _ (Nat.le_refl _) (by decide)) _)
      · have h := R_mk0 (w.alloc (mk0 286)) 30 w.heap.size (by simp) (by decide)
        rw [show (w.alloc (mk0 286)).heap.size = w.heap.size + 1 by simp] at h
        exact Kd.R_drew h
    case rel =>
      refine ⟨_, _, rfl, rfl, ⟨by omega, ?_, ?_, ?_⟩⟩
      · exact below_drew1 (below_alloc (below_alloc (Below.refl _ _) _) _)
      · have h := R_mk0 (w.alloc (mk0 30)) 286 w.heap.size (by simp) (by decide)
        rw [show (w.alloc (mk0 30)).heap.size = w.heap.size + 1 by simp] at h
        exact Kd.R_drew h
      · exact Kd.R_drew (Kd.R_alloc (R_mk0 w 30 _ (Nat.le_refl _) (by decide)) _)
  case rest =>
    obtain ⟨b1, b2, rfl, rfl, HR⟩ := hcut
    go_wp2_with fail
    refine (sames_calls wc).mono ?_
    rintro e w1 ⟨v4, rfl, hR4, hB4⟩
    have H4 := Aside0.mk (And.intro hR4 hB4)
    clear hR4 hB4
    go_wp2_with fail
    refine (fars_calls w1).mono ?_
    rintro e w2 ⟨v5, rfl, hR5, hB5⟩
    have H5 := Aside0.mk (And.intro hR5 hB5)
    clear hR5 hB5
    obtain ⟨A4, c4, rfl⟩ := Kd.R_slice H4.out.1
    obtain ⟨A5, c5, rfl⟩ := Kd.R_slice H5.out.1
    have HB0 := Aside0.mk (HR.out.2.1.trans ((H4.out.2.trans (H5.out.2.mono H4.out.2.size)).mono HR.out.2.1.size))
    have hb4 := H4.out.2.trans (H5.out.2.mono H4.out.2.size)
    have H0 := Aside0.mk (show Kd.R (Kd.int .i64) 3 w2 w.heap.size (fun k => k = b1) (.slice (some ⟨b1, 0, none⟩) 286 286) (nn (litTo ts 0)) ∧ Kd.R (Kd.int .i64) 3 w2 w.heap.size (fun k => k = b2) (.slice (some ⟨b2, 0, none⟩) 30 30) (nn (farTo ts 0)) ∧
        Kd.R k123 123 w2 w.heap.size (fun _ => True) (.slice A4 samesM.length c4) samesM ∧ Kd.R k123 123 w2 w.heap.size (fun _ => True) (.slice A5 farsM.length c5) farsM ∧ Below w.heap.size w w2 from
      ⟨Kd.R_below HR.out.2.2.1 hb4, Kd.R_below HR.out.2.2.2 hb4, Kd.R_lower (Kd.R_below H4.out.1 H5.out.2) HR.out.2.1.size, Kd.R_lower H5.out.1 (Nat.le_trans HR.out.2.1.size H4.out.2.size), HB0.out⟩)
    have hne := Aside0.mk HR.out.1
    clear HR H4 H5 HB0 hb4
    go_wp2_with fail
    go_loopw [14] (fun vk wr => ∃ k : Nat, vk = .int .i64 k ∧ k ≤ n ∧ Aside0 (Kd.R (Kd.int .i64) 3 wr w.heap.size (fun k => k = b1) (.slice (some ⟨b1, 0, none⟩) 286 286) (nn (litTo ts k)) ∧ Kd.R (Kd.int .i64) 3 wr w.heap.size (fun k => k = b2) (.slice (some ⟨b2, 0, none⟩) 30 30) (nn (farTo ts k)) ∧
        Kd.R k123 123 wr w.heap.size (fun _ => True) (.slice A4 samesM.length c4) samesM ∧ Kd.R k123 123 wr w.heap.size (fun _ => True) (.slice A5 farsM.length c5) farsM ∧ Below w.heap.size w wr)) (fun vk _ => n - (intOf vk).toNat)
    case atStart => exact ⟨0, rfl, Nat.zero_le _, H0⟩
    case round =>
      obtain ⟨k, rfl, hk, HK2⟩ := hrel
      by_cases hlt : k < n
      · obtain ⟨t, ht⟩ : ∃ t, ts[k]? = some t := ⟨_, List.getElem?_eq_getElem (by have := HL.out; omega)⟩
        obtain ⟨ad, hA, x0, x1, x2⟩ := tok_cells (Kd.C_below HC.out HK2.out.2.2.2.2) k hlt t ht
        have hto := HK.out t (List.mem_of_getElem? ht)
        have HT := Aside0.mk ht
        cases hA
        obtain ⟨tb, tsm, tf⟩ := t
        have hb := hto.b
        have hs := hto.same
        have hf := hto.far
        simp only at x0 x1 x2 hb hs hf
        have k1 : (k : Int) < n := by omega
        clear hto ht
        go_upto_if 20 with fail
        generalize hW1 : World.alloc _ _ = W1
        have hB1 : Below wr.heap.size wr W1 := by rw [← hW1]; exact below_alloc (Below.refl _ _) _
        have p0 : W1.cell? ⟨wr.heap.size, 0, none⟩ = some (.int .u8 (tb : Int)) := by rw [← hW1]; simp [go_sem]
        have p1 : W1.cell? ⟨wr.heap.size, 1, none⟩ = some (.int .i64 (tsm : Int)) := by rw [← hW1]; simp [go_sem]
        have p2 : W1.cell? ⟨wr.heap.size, 2, none⟩ = some (.int .i64 (tf : Int)) := by rw [← hW1]; simp [go_sem]
        have H1 := Aside0.mk (And.intro (Kd.R_below HK2.out.1 hB1) (And.intro (Kd.R_below HK2.out.2.1 hB1) (And.intro (Kd.R_below HK2.out.2.2.1 hB1) (And.intro (Kd.R_below HK2.out.2.2.2.1 hB1) (HK2.out.2.2.2.2.trans (hB1.mono HK2.out.2.2.2.2.size))))))
        clear hW1 hB1 x0 x1 x2
        by_cases h0 : tsm = 0
        · subst h0
          obtain ⟨y0, y1⟩ := bump_cells H1.out.1 tb (by omega)
          obtain ⟨x, hx⟩ : ∃ x, x = (litTo ts k).getD tb 0 := ⟨_, rfl⟩
          have hx3 : x ≤ 3000 := by
            have h1 := Rq.getD_le _ _ tb (Rq.litTo_le ts k)
            have := HL.out
            omega
          rw [← hx] at y0
          have HX := Aside0.mk hx
          have b1' : (tb : Int) < 286 := by omega
          clear hx
          go_wp2_with fail
          go_roundw
          case rel =>
            have hbb := Kd.R_base H1.out.1 b1 rfl
            obtain ⟨cells9, hb9⟩ := Kd.R_typed H1.out.1 b1 rfl
            refine ⟨k + 1, by go_num, by omega, ⟨?_, ?_, Kd.R_set H1.out.2.2.1 hb9 (by simp [k123, Kd.iso, Kd.pair, Kd.int, Kd.scalar]) tb _, Kd.R_set H1.out.2.2.2.1 hb9 (by simp [k123, Kd.iso, Kd.pair, Kd.int, Kd.scalar]) tb _, H1.out.2.2.2.2.setCell (p := ⟨b1, tb, none⟩) hbb _⟩⟩
            · rw [Rq.litTo_succ ts k _ HT.out]
              exact R_bump H1.out.1 tb x HX.out
            · rw [Rq.farTo_succ ts k _ HT.out]
              exact Kd.R_far H1.out.2.1 (p := ⟨b1, tb, none⟩) (fun j hj => by have := hne.out; simp only at hj ⊢; omega) _
          case measure => simp [intOf]; omega
        · have h0' : (tsm : Int) ≠ 0 := by omega
          have hsl := Rq.symS_lt tsm
          have hfl := Rq.symF_lt tf
          obtain ⟨s, hs'⟩ : ∃ s, s = symS tsm := ⟨_, rfl⟩
          obtain ⟨f, hf'⟩ : ∃ f, f = symF tf := ⟨_, rfl⟩
          rw [← hs'] at hsl
          rw [← hf'] at hfl
          have HS := Aside0.mk (And.intro hs' hf')
          clear hs' hf'
          have hpb : wr.heap.size < W1.heap.size := World.block_lt_of_cell? W1 ⟨wr.heap.size, 0, none⟩ p0
          have hbb := Kd.R_base HK2.out.1 b1 rfl
          have hb9' := Kd.R_lt HK2.out.1 b1 rfl
          have hbc := Kd.R_base HK2.out.2.1 b2 rfl
          go_wp2_with fail
          refine (symS_calls tsm _ rfl (Kd.R_reads' H1.out.2.2.1).2.2 (Kd.R_reads' H1.out.2.2.1).2.1).mono ?_
          rintro e w3 ⟨rfl, hB3⟩
          rw [← HS.out.1]
          have q2 : w3.cell? ⟨wr.heap.size, 2, none⟩ = some (.int .i64 (tf : Int)) := (hB3.cell (p := ⟨wr.heap.size, 2, none⟩) hpb).trans p2
          have H3 := Aside0.mk (And.intro (Kd.R_below H1.out.1 hB3) (And.intro (Kd.R_below H1.out.2.1 hB3) (And.intro (Kd.R_below H1.out.2.2.1 hB3) (And.intro (Kd.R_below H1.out.2.2.2.1 hB3) (H1.out.2.2.2.2.trans (hB3.mono H1.out.2.2.2.2.size))))))
          clear hB3 p0 p1 p2 H1
          obtain ⟨y0, y1⟩ := bump_cells H3.out.1 (257 + s) (by omega)
          obtain ⟨x, hx⟩ : ∃ x, x = (litTo ts k).getD (257 + s) 0 := ⟨_, rfl⟩
          have hx3 : x ≤ 3000 := by
            have h1 := Rq.getD_le _ _ (257 + s) (Rq.litTo_le ts k)
            have := HL.out
            omega
          rw [← hx] at y0
          have HX := Aside0.mk hx
          clear hx
          go_upto_region 9 with fail
          generalize hW4 : World.setCell _ _ _ = W4
          have r2 : W4.cell? ⟨wr.heap.size, 2, none⟩ = some (.int .i64 (tf : Int)) := by
            rw [← hW4]; simp [go_sem, q2]
          obtain ⟨cells9, hb9⟩ := Kd.R_typed H3.out.1 b1 rfl
          have H4 := Aside0.mk (show Kd.R (Kd.int .i64) 3 W4 w.heap.size (fun k => k = b1) (.slice (some ⟨b1, 0, none⟩) 286 286) (nn (litTo ts (k + 1))) ∧ Kd.R (Kd.int .i64) 3 W4 w.heap.size (fun k => k = b2) (.slice (some ⟨b2, 0, none⟩) 30 30) (nn (farTo ts k)) ∧
            Kd.R k123 123 W4 w.heap.size (fun _ => True) (.slice A4 samesM.length c4) samesM ∧ Kd.R k123 123 W4 w.heap.size (fun _ => True) (.slice A5 farsM.length c5) farsM ∧ Below w.heap.size w W4 from by
              rw [← hW4]
              refine ⟨?_, ?_, Kd.R_set H3.out.2.2.1 hb9 (by simp [k123, Kd.iso, Kd.pair, Kd.int, Kd.scalar]) (257 + s) _, Kd.R_set H3.out.2.2.2.1 hb9 (by simp [k123, Kd.iso, Kd.pair, Kd.int, Kd.scalar]) (257 + s) _, H3.out.2.2.2.2.setCell (p := ⟨b1, 257 + s, none⟩) hbb _⟩
              · rw [Rq.litTo_succ ts k _ HT.out, Rq.litStep, if_neg h0, ← HS.out.1]
                exact R_bump H3.out.1 (257 + s) x HX.out
              · exact Kd.R_far H3.out.2.1 (p := ⟨b1, 257 + s, none⟩) (fun j hj => by have := hne.out; simp only at hj ⊢; omega) _)
          clear hW4 hb9 H3 q2 y0 y1
          go_wp2_with fail
          refine (symF_calls tf _ rfl (Kd.R_reads' H4.out.2.2.2.1).2.2 (Kd.R_reads' H4.out.2.2.2.1).2.1).mono ?_
          rintro e w5 ⟨rfl, hB5⟩
          rw [← HS.out.2]
          have H5 := Aside0.mk (And.intro (Kd.R_below H4.out.1 hB5) (And.intro (Kd.R_below H4.out.2.1 hB5) (And.intro (Kd.R_below H4.out.2.2.1 hB5) (And.intro (Kd.R_below H4.out.2.2.2.1 hB5) (H4.out.2.2.2.2.trans (hB5.mono H4.out.2.2.2.2.size))))))
          clear hB5 r2 H4
          obtain ⟨y0, y1⟩ := bump_cells H5.out.2.1 f (by omega)
          obtain ⟨y, hy⟩ : ∃ y, y = (farTo ts k).getD f 0 := ⟨_, rfl⟩
          have hy3 : y ≤ 3000 := by
            have h1 := Rq.getD_le _ _ f (Rq.farTo_le ts k)
            have := HL.out
            omega
          rw [← hy] at y0
          have HY := Aside0.mk hy
          clear hy
          go_wp2_with fail
          go_roundw
          case rel =>
            obtain ⟨cells9, hb9⟩ := Kd.R_typed H5.out.2.1 b2 rfl
            refine ⟨k + 1, by go_num, by omega, ⟨?_, ?_, Kd.R_set H5.out.2.2.1 hb9 (by simp [k123, Kd.iso, Kd.pair, Kd.int, Kd.scalar]) f _, Kd.R_set H5.out.2.2.2.1 hb9 (by simp [k123, Kd.iso, Kd.pair, Kd.int, Kd.scalar]) f _, H5.out.2.2.2.2.setCell (p := ⟨b2, f, none⟩) hbc _⟩⟩
            · exact Kd.R_far H5.out.1 (p := ⟨b2, f, none⟩) (fun j hj => by have := hne.out; simp only at hj ⊢; omega) _
            · rw [Rq.farTo_succ ts k _ HT.out, Rq.farStep, if_neg h0, ← HS.out.2]
              exact R_bump H5.out.2.1 f y HY.out
          case measure => simp [intOf]; omega
      · have k1 : ¬ (k : Int) < n := by omega
        obtain rfl : k = n := by omega
        have hl := HL.out
        obtain ⟨y0, y1⟩ := bump_cells HK2.out.1 256 (by omega)
        obtain ⟨x, hx⟩ : ∃ x, x = (litTo ts k).getD 256 0 := ⟨_, rfl⟩
        have hx3 : x ≤ 3000 := by
          have h1 := Rq.getD_le _ _ 256 (Rq.litTo_le ts k)
          omega
        rw [← hx] at y0
        have HX := Aside0.mk hx
        clear hx
        go_wp2_with fail
        go_ret2
        have hbb := Kd.R_base HK2.out.1 b1 rfl
        refine ⟨_, _, rfl, ?_, ?_, HK2.out.2.2.2.2.setCell (p := ⟨b1, 256, none⟩) hbb _⟩
        · rw [litCounts, hl]
          exact Kd.R_mono (R_bump HK2.out.1 256 x HX.out) (fun _ _ => trivial)
        · rw [farCounts, hl]
          exact Kd.R_mono (Kd.R_far HK2.out.2.1 (p := ⟨b1, 256, none⟩) (fun j hj => by have := hne.out; simp only at hj ⊢; omega) _) (fun _ _ => trivial)
end Go.Proofs.Ythfkjejjndgajaa
