/- MCode: Runs, Codes, Fixed. -/
import Derived.Test.YthfkjejjndgajaaMBase
import Derived.Test.YthfkjejjndgajaaPlainA
import Derived.Test.YthfkjejjndgajaaPrunsx1
import Derived.Test.YthfkjejjndgajaaPCodesx1
import Derived.Test.YthfkjejjndgajaaPFixedCodex1
/- The runs of lengths (block.runs). -/
namespace Go.Proofs.Ythfkjejjndgajaa
open Go.RowKit Go.Proofs.YthfkjejjndgajaaW.PrintWords Go.Proofs.YthfkjejjndgajaaW.PrintLast Go.Proofs.YthfkjejjndgajaaW.PrintMore Go.Proofs.Ythfkjejjndgajaa.Pruns
open Rq (Run restR headN groupR runsT runsM)

def toRun (x : Run) : S114 := ⟨(x.sym : Int), (x.add : Int), (x.bits : Int)⟩
theorem w64 (z : Int) (h : -1000000000 ≤ z ∧ z ≤ 1000000000) : wrap64 z = z := by unfold wrap64; omega

section
variable {X : List Int} {r : List S114}
theorem runs_l2 (i : Int) (v : Nat) (r : List S114) : ∀ (m n : Nat) (x3 : List S114), n ≤ m → x3.length + n ≤ 1000000 → n ≤ 1000000 → v ≤ 1000000 →
    (∃ k, block_runs.l0 k X (x3 ++ (restR m v n).map toRun) i = some r) → ∃ k, block_runs.l2 k X x3 i (n : Int) (v : Int) = some r
  | 0, n, x3, hm, hx, hn, hv, ⟨k, hk⟩ => by
    obtain rfl : n = 0 := by omega
    refine ⟨k + 1, ?_⟩
    rw [block_runs.l2, if_neg (by omega)]
    simpa [restR] using hk
  | m + 1, n, x3, hm, hx, hn, hv, ⟨k, hk⟩ => by
    rw [restR] at hk
    by_cases h0 : n = 0
    · subst h0
      refine ⟨k + 1, ?_⟩
      rw [block_runs.l2, if_neg (by omega)]
      simpa using hk
    rw [if_neg h0] at hk
    have step : ∀ (y : Run) (n' : Nat), n' ≤ m → n' + 1 ≤ n → (∃ k, block_runs.l0 k X (x3 ++ (y :: restR m v n').map toRun) i = some r) → ∃ k, block_runs.l2 k X (x3 ++ [toRun y]) i (n' : Int) (v : Int) = some r := by
      intro y n' h1 h2 ⟨k, hk⟩
      refine runs_l2 i v r m n' (x3 ++ [toRun y]) h1 (by simp; omega) (by omega) hv ⟨k, ?_⟩
      rw [List.append_assoc, List.singleton_append, ← List.map_cons]
      exact hk
    have hlen : x3.length < 5864062014805 := by omega
    by_cases hv0 : v = 0
    · subst hv0
      by_cases h11 : 11 ≤ n
      · rw [if_pos ⟨rfl, h11⟩] at hk
        obtain ⟨k2, hk2⟩ := step _ _ (by omega) (by omega) ⟨k, hk⟩
        refine ⟨k2 + 2, ?_⟩
        rw [block_runs.l2, if_pos (by omega), if_pos (by omega), block_runs.j5, if_pos (by simp; omega), if_pos hlen]
        have e1 : (mn (n : Int) 138) = ((min n 138 : Nat) : Int) := by unfold mn; omega
        rw [e1, w64 _ (by omega), w64 _ (by omega)]
        rw [show ((n : Int) - ((min n 138 : Nat) : Int)) = ((n - min n 138 : Nat) : Int) by omega, show (((min n 138 : Nat) : Int) - 11) = ((min n 138 - 11 : Nat) : Int) by omega]
        exact hk2
      · rw [if_neg (by omega)] at hk
        by_cases h3 : 3 ≤ n
        · rw [if_pos ⟨rfl, h3⟩] at hk
          obtain ⟨k2, hk2⟩ := step _ _ (by omega) (by omega) ⟨k, hk⟩
          refine ⟨k2 + 3, ?_⟩
          rw [block_runs.l2, if_pos (by omega), if_pos (by omega), block_runs.j5, if_neg (by simp; omega), if_pos (by omega), block_runs.j6, if_pos (by simp; omega), if_pos hlen]
          have e1 : (mn (n : Int) 10) = ((min n 10 : Nat) : Int) := by unfold mn; omega
          rw [e1, w64 _ (by omega), w64 _ (by omega)]
          rw [show ((n : Int) - ((min n 10 : Nat) : Int)) = ((n - min n 10 : Nat) : Int) by omega, show (((min n 10 : Nat) : Int) - 3) = ((min n 10 - 3 : Nat) : Int) by omega]
          exact hk2
        · rw [if_neg (by omega), if_neg (by omega)] at hk
          obtain ⟨k2, hk2⟩ := step _ _ (by omega) (by omega) ⟨k, hk⟩
          refine ⟨k2 + 3, ?_⟩
          rw [block_runs.l2, if_pos (by omega), if_pos (by omega), block_runs.j5, if_neg (by simp; omega), if_pos (by omega), block_runs.j6, if_neg (by simp; omega), if_pos (by omega), if_pos hlen, w64 _ (by omega)]
          rw [show ((n : Int) - 1) = ((n - 1 : Nat) : Int) by omega]
          exact hk2
    · rw [if_neg (by omega), if_neg (by omega)] at hk
      by_cases h3 : 3 ≤ n
      · rw [if_pos ⟨hv0, h3⟩] at hk
        obtain ⟨k2, hk2⟩ := step _ _ (by omega) (by omega) ⟨k, hk⟩
        refine ⟨k2 + 3, ?_⟩
        rw [block_runs.l2, if_pos (by omega), if_neg (by omega), block_runs.j5, if_neg (by simp), if_neg (by omega), block_runs.j6, if_neg (by simp), if_neg (by omega), if_pos (by omega), if_pos hlen]
        have e1 : (mn (n : Int) 6) = ((min n 6 : Nat) : Int) := by unfold mn; omega
        rw [e1, w64 _ (by omega), w64 _ (by omega)]
        rw [show ((n : Int) - ((min n 6 : Nat) : Int)) = ((n - min n 6 : Nat) : Int) by omega, show (((min n 6 : Nat) : Int) - 3) = ((min n 6 - 3 : Nat) : Int) by omega]
        exact hk2
      · rw [if_neg (by omega)] at hk
        obtain ⟨k2, hk2⟩ := step _ _ (by omega) (by omega) ⟨k, hk⟩
        refine ⟨k2 + 3, ?_⟩
        rw [block_runs.l2, if_pos (by omega), if_neg (by omega), block_runs.j5, if_neg (by simp), if_neg (by omega), block_runs.j6, if_neg (by simp), if_neg (by omega), if_neg (by omega), if_pos hlen, w64 _ (by omega)]
        rw [show ((n : Int) - 1) = ((n - 1 : Nat) : Int) by omega]
        exact hk2
theorem nn_at (l : List Nat) (i : Nat) (z : Int) (hz : z = (i : Int)) : rd (nn l) z = ((l.getD i 0 : Nat) : Int) := by subst hz; exact rd_nn l i
theorem runs_j2 (l : List Nat) (i n : Nat) (x3 : List S114) (hn : 1 ≤ n) (hin : i + n ≤ l.length) (hl : l.length ≤ 1000000) (hx : x3.length + n ≤ 1000000) (hv : ∀ x ∈ l, x ≤ 1000000)
    (h : ∃ k, block_runs.l0 k (nn l) (x3 ++ (groupR (l.getD (i + n - 1) 0) n).map toRun) ((i + n : Nat) : Int) = some r) : ∃ k, block_runs.j2 k (nn l) x3 (i : Int) (n : Int) = some r := by
  have e1 : wrap64 ((i : Int) + (n : Int)) = ((i + n : Nat) : Int) := by rw [w64 _ (by omega)]; omega
  have e2 : wrap64 (((i + n : Nat) : Int) - 1) = ((i + n - 1 : Nat) : Int) := by rw [w64 _ (by omega)]; omega
  have hvv := Rq.getD_le l 1000000 (i + n - 1) hv
  obtain ⟨v, hvd⟩ : ∃ v, v = l.getD (i + n - 1) 0 := ⟨_, rfl⟩
  have hg : rd (nn l) ((i + n - 1 : Nat) : Int) = (v : Int) := by rw [hvd]; exact rd_nn l _
  rw [← hvd] at h hvv
  rw [groupR] at h
  by_cases h0 : v = 0
  · rw [if_pos h0] at h
    obtain ⟨k, hk⟩ := runs_l2 (X := nn l) ((i + n : Nat) : Int) v r n n x3 (Nat.le_refl _) hx (by omega) hvv h
    refine ⟨k + 2, ?_⟩
    rw [block_runs.j2, e1, e2, hg, if_pos (by omega), if_pos (by rw [nn_length]; omega), if_pos (by omega), block_runs.j3]
    exact hk
  · rw [if_neg h0] at h
    have h2 : ∃ k, block_runs.l0 k (nn l) ((x3 ++ [toRun ⟨v, 0, 0⟩]) ++ (restR (n - 1) v (n - 1)).map toRun) ((i + n : Nat) : Int) = some r := by
      rw [List.append_assoc, List.singleton_append, ← List.map_cons]; exact h
    obtain ⟨k, hk⟩ := runs_l2 (X := nn l) ((i + n : Nat) : Int) v r (n - 1) (n - 1) (x3 ++ [toRun ⟨v, 0, 0⟩]) (Nat.le_refl _) (by simp; omega) (by omega) hvv h2
    refine ⟨k + 2, ?_⟩
    rw [block_runs.j2, e1, e2, hg, if_pos (by omega), if_pos (by rw [nn_length]; omega), if_neg (by omega), if_pos (by omega), block_runs.j3, w64 _ (by omega), show ((n : Int) - 1) = ((n - 1 : Nat) : Int) by omega]
    exact hk
theorem drop_head (l : List Nat) (i : Nat) (h : i < l.length) : l.drop i = l.getD i 0 :: l.drop (i + 1) := by
  rw [List.drop_eq_getElem_cons h, List.getD_eq_getElem?_getD, List.getElem?_eq_getElem h]; rfl
theorem runs_l1 (l : List Nat) (i : Nat) (x3 : List S114) (hi : i < l.length) (hl : l.length ≤ 1000000)
    (h : ∃ k, block_runs.j2 k (nn l) x3 (i : Int) ((headN (l.drop i) : Nat) : Int) = some r) : ∀ d n, n + d = headN (l.drop i) → 1 ≤ n → ∃ k, block_runs.l1 k (nn l) x3 (i : Int) (n : Int) = some r := by
  have hdr := drop_head l i hi
  have hle := Rq.headN_le (l.drop i)
  rw [List.length_drop] at hle
  intro d
  induction d with
  | zero =>
    intro n hn h1
    obtain rfl : n = headN (l.drop i) := by omega
    obtain ⟨k, hk⟩ := h
    refine ⟨k + 1, ?_⟩
    have e1 : wrap64 ((i : Int) + ((headN (l.drop i) : Nat) : Int)) = ((i + headN (l.drop i) : Nat) : Int) := by rw [w64 _ (by omega)]; omega
    rw [block_runs.l1, e1]
    by_cases hlt : i + headN (l.drop i) < l.length
    · rw [if_pos (by rw [nn_length]; omega), if_pos (by omega), if_pos (by omega), if_pos (by rw [nn_length]; omega), rd_nn, rd_nn]
      have hs := Rq.headN_stop (l.getD i 0) (l.drop (i + 1)) (by rw [← hdr, List.length_drop]; omega)
      rw [← hdr] at hs
      obtain ⟨y, hy, hne⟩ := hs
      rw [List.getElem?_drop] at hy
      have : l.getD (i + headN (l.drop i)) 0 = y := by rw [List.getD_eq_getElem?_getD, hy]; rfl
      rw [this, if_neg (by omega)]
      exact hk
    · rw [if_neg (by rw [nn_length]; omega)]
      exact hk
  | succ d ih =>
    intro n hn h1
    obtain ⟨k, hk⟩ := ih (n + 1) (by omega) (by omega)
    refine ⟨k + 1, ?_⟩
    have e1 : wrap64 ((i : Int) + (n : Int)) = ((i + n : Nat) : Int) := by rw [w64 _ (by omega)]; omega
    have e2 : wrap64 ((n : Int) + 1) = ((n + 1 : Nat) : Int) := by rw [w64 _ (by omega)]; omega
    have hs := Rq.headN_same (l.getD i 0) (l.drop (i + 1)) n (by rw [← hdr]; omega)
    rw [← hdr, List.getElem?_drop] at hs
    have : l.getD (i + n) 0 = l.getD i 0 := by rw [List.getD_eq_getElem?_getD, hs]; rfl
    rw [block_runs.l1, e1, if_pos (by rw [nn_length]; omega), if_pos (by omega), if_pos (by omega), if_pos (by rw [nn_length]; omega), rd_nn, rd_nn, this, if_pos rfl, e2]
    exact hk
theorem runs_l0 (l : List Nat) (hl : l.length ≤ 1000000) (hv : ∀ x ∈ l, x ≤ 1000000) : ∀ m i x3, l.length - i ≤ m → i ≤ l.length → x3.length + (l.length - i) ≤ 1000000 →
    ∃ k, block_runs.l0 k (nn l) x3 (i : Int) = some (x3 ++ (runsT m (l.drop i)).map toRun)
  | 0, i, x3, hm, hi, _ => by
    refine ⟨1, ?_⟩
    rw [block_runs.l0, if_neg (by rw [nn_length]; omega)]
    simp [runsT]
  | m + 1, i, x3, hm, hi, hx => by
    by_cases hlt : i < l.length
    · have hdr := drop_head l i hlt
      have hle := Rq.headN_le (l.drop i)
      rw [List.length_drop] at hle
      have hp : 0 < headN (l.drop i) := by rw [hdr]; exact Rq.headN_pos _ _
      have hgl := Rq.groupR_len (l.getD i 0) (headN (l.drop i)) hp
      have ih := runs_l0 l hl hv m (i + headN (l.drop i)) (x3 ++ (groupR (l.getD i 0) (headN (l.drop i))).map toRun) (by omega) (by omega) (by rw [List.length_append, List.length_map]; omega)
      have hlast : l.getD (i + headN (l.drop i) - 1) 0 = l.getD i 0 := by
        have hs := Rq.headN_same (l.getD i 0) (l.drop (i + 1)) (headN (l.drop i) - 1) (by rw [← hdr]; omega)
        rw [← hdr, List.getElem?_drop] at hs
        rw [show i + headN (l.drop i) - 1 = i + (headN (l.drop i) - 1) by omega, List.getD_eq_getElem?_getD, hs]; rfl
      have e : x3 ++ (groupR (l.getD i 0) (headN (l.drop i))).map toRun ++ (runsT m (l.drop (i + headN (l.drop i)))).map toRun = x3 ++ (runsT (m + 1) (l.drop i)).map toRun := by
        conv => rhs; rw [hdr, runsT, ← hdr]
        rw [List.map_append, ← List.append_assoc, List.drop_drop]
      rw [e] at ih
      have h2 := runs_j2 (r := x3 ++ (runsT (m + 1) (l.drop i)).map toRun) l i (headN (l.drop i)) x3 hp (by omega) hl (by omega) hv (by rw [hlast]; exact ih)
      obtain ⟨k, hk⟩ := runs_l1 l i x3 hlt hl h2 (headN (l.drop i) - 1) 1 (by omega) (Nat.le_refl _)
      refine ⟨k + 1, ?_⟩
      rw [block_runs.l0, if_pos (by rw [nn_length]; omega)]
      exact hk
    · refine ⟨1, ?_⟩
      rw [block_runs.l0, if_neg (by rw [nn_length]; omega), List.drop_eq_nil_of_le (by omega)]
      simp [runsT]
theorem runs_calls {w : World} {A : Option Addr} {n c : Nat} {l : List Nat} (hr : Kd.C (Kd.int .i64) w A n (nn l)) (hc : n ≤ c) (hl : n ≤ 1000000) (hv : ∀ x ∈ l, x ≤ 1000000) :
    Calls Try.prog 64 #[.slice A n c] w fun e w' => ∃ v, e = .returned v ∧ Kd.R k114 114 w' w.heap.size (fun _ => True) v ((runsM l).map toRun) ∧ Below w.heap.size w w' := by
  obtain rfl : l.length = n := by have := hr.1; rw [nn_length] at this; exact this
  obtain ⟨k, hk⟩ := runs_l0 l hl hv l.length 0 [] (by omega) (Nat.zero_le _) (by simpa using hl)
  have h := block_runs.calls k A c (nn l) ((runsM l).map toRun) w (by rw [nn_length]; exact hr) (by rw [nn_length]; exact hc) (by simpa [block_runs.f, runsM] using hk)
  rw [nn_length] at h
  exact h
end
end Go.Proofs.Ythfkjejjndgajaa

/- The codes of lengths (code.Codes), and their check (code.Check). -/
namespace Go.Proofs.Ythfkjejjndgajaa
open Go.RowKit Go.Proofs.YthfkjejjndgajaaW.PrintWords Go.Proofs.YthfkjejjndgajaaW.PrintLast Go.Proofs.YthfkjejjndgajaaW.PrintMore Go.Proofs.Ythfkjejjndgajaa.PCodes
open Rq (Right room codesM codeOf firstC)

theorem wc64 (z : Int) (h : -1000000000000 ≤ z ∧ z ≤ 1000000000000) : wrap64 z = z := by unfold wrap64; omega
theorem shl1_c (n : Nat) (h : n ≤ 15) : shl .i64 1 ((n : Nat) : Int) = ((2 ^ n : Nat) : Int) := by
  have : ∀ n, n < 16 → shl .i64 1 ((n : Nat) : Int) = ((2 ^ n : Nat) : Int) := by decide +kernel
  exact this n (by omega)
theorem room_le (l : List Nat) : room l ≤ l.length * 32768 := by
  unfold room
  induction l with
  | nil => simp
  | cons x l ih =>
    rw [List.map_cons, List.sum_cons, List.length_cons, Nat.add_mul]
    have : (if 0 < x then 2 ^ (15 - x) else 0) ≤ 32768 := by
      split
      · have : 2 ^ (15 - x) ≤ 2 ^ 15 := Nat.pow_le_pow_right (by decide) (by omega)
        omega
      · omega
    omega
theorem room_take (l : List Nat) (i : Nat) (h : i < l.length) : room (l.take (i + 1)) = room (l.take i) + if 0 < l.getD i 0 then 2 ^ (15 - l.getD i 0) else 0 := by
  rw [List.take_succ_eq_append_getElem h, List.getD_eq_getElem?_getD, List.getElem?_eq_getElem h]
  unfold room
  rw [List.map_append, List.sum_append]; rfl
theorem check_l0 (l : List Nat) (hl : l.length ≤ 288) (hv : ∀ x ∈ l, x ≤ 15) : ∀ d i, i + d = l.length →
    code_Check.l0 (2 * d + 1) ((room (l.take i) : Nat) : Int) (nn l) (l.length : Int) (i : Int) = some (if room l ≤ 32768 then 0 else 8)
  | 0, i, h => by
    obtain rfl : i = l.length := by omega
    rw [code_Check.l0, if_neg (by omega), List.take_length]
    by_cases hc : room l ≤ 32768
    · rw [if_neg (by omega), if_pos hc]
    · rw [if_pos (by omega), if_neg hc]
  | d + 1, i, h => by
    have e3 : wrap64 ((i : Int) + 1) = ((i + 1 : Nat) : Int) := by rw [wc64 _ (by omega)]; omega
    have ih := check_l0 l hl hv d (i + 1) (by omega)
    have hx := Rq.getD_le l 15 i hv
    have hrt := room_take l i (by omega)
    have hrl := room_le (l.take i)
    have hlt : (l.take i).length ≤ 288 := by rw [List.length_take]; omega
    have hrl2 : room (l.take i) ≤ 9437184 := by
      have : (l.take i).length * 32768 ≤ 288 * 32768 := Nat.mul_le_mul_right _ hlt
      omega
    rw [show 2 * (d + 1) + 1 = 2 * d + 1 + 1 + 1 by omega, code_Check.l0, if_pos (by omega), if_pos (by omega), if_pos (by rw [nn_length]; omega), rd_nn, if_neg (by omega)]
    rw [show decide (((l.getD i 0 : Nat) : Int) > 15) = false by simp only [decide_eq_false_iff_not]; omega, code_Check.j1, if_neg (by decide), e3]
    by_cases h0 : 0 < l.getD i 0
    · rw [if_pos h0] at hrt
      have e1 : wrap64 (15 - ((l.getD i 0 : Nat) : Int)) = ((15 - l.getD i 0 : Nat) : Int) := by rw [wc64 _ (by omega)]; omega
      rw [if_pos (by omega), e1, if_pos (by omega), shl1_c _ (by omega)]
      have hp : 2 ^ (15 - l.getD i 0) ≤ 2 ^ 15 := Nat.pow_le_pow_right (by decide) (by omega)
      rw [wc64 _ (by omega), show ((room (l.take i) : Nat) : Int) + ((2 ^ (15 - l.getD i 0) : Nat) : Int) = ((room (l.take (i + 1)) : Nat) : Int) by rw [hrt]; omega]
      exact ih
    · rw [if_neg h0] at hrt
      have hrt' : room (l.take i) = room (l.take (i + 1)) := by omega
      rw [if_neg (by omega), hrt']
      exact ih
/-- Of lengths from 0 to 15, not too many: whether there is room. -/
theorem check_f (l : List Nat) (hl : l.length ≤ 288) (hv : ∀ x ∈ l, x ≤ 15) : code_Check.f (2 * l.length + 1) (nn l) = some (if room l ≤ 32768 then 0 else 8) := by
  rw [code_Check.f, nn_length, if_neg (by omega)]
  exact check_l0 l hl hv l.length 0 (by omega)
theorem check_calls {w : World} {A : Option Addr} {n c : Nat} {l : List Nat} (hr : Kd.C (Kd.int .i64) w A n (nn l)) (hc : n ≤ c) (hl : n ≤ 288) (hv : ∀ x ∈ l, x ≤ 15) :
    Calls Try.prog 94 #[.slice A n c] w fun e w' => e = .returned (.int .i64 (if room l ≤ 32768 then 0 else 8)) ∧ Drawn0 w w' := by
  obtain rfl : l.length = n := by have := hr.1; rw [nn_length] at this; exact this
  have h := code_Check.calls (2 * l.length + 1) A c (nn l) _ w (by rw [nn_length]; exact hr) (by rw [nn_length]; exact hc) (check_f l hl hv)
  rw [nn_length] at h
  exact h
/-- The codes of lengths below s, and of those of length s ahead of i. -/
def codesTo (l : List Nat) (s i : Nat) : List Nat := (List.range l.length).map fun j => if l.getD j 0 < s ∨ l.getD j 0 = s ∧ j < i then codeOf l j else 0
theorem codesTo_len (l : List Nat) (s i : Nat) : (codesTo l s i).length = l.length := by simp [codesTo]
theorem codesTo_next (l : List Nat) (s : Nat) : codesTo l s l.length = codesTo l (s + 1) 0 := by
  unfold codesTo
  apply List.map_congr_left
  intro j hj
  have := List.mem_range.1 hj
  congr 1
  apply propext
  omega
theorem codesTo_skip (l : List Nat) (s i : Nat) (h : l.getD i 0 ≠ s) : codesTo l s (i + 1) = codesTo l s i := by
  unfold codesTo
  apply List.map_congr_left
  intro j hj
  congr 1
  apply propext
  by_cases e : j = i
  · subst e; omega
  · omega
theorem codesTo_put (l : List Nat) (s i : Nat) (hi : i < l.length) (h : l.getD i 0 = s) : (codesTo l s i).set i (codeOf l i) = codesTo l s (i + 1) := by
  apply List.ext_getElem?
  intro j
  rw [List.getElem?_set]
  unfold codesTo
  by_cases e : i = j
  · subst e
    rw [if_pos rfl, List.length_map, List.length_range, if_pos hi, List.getElem?_map, List.getElem?_range hi]
    rw [Option.map_some, if_pos (.inr ⟨h, by omega⟩)]
  · rw [if_neg e, List.getElem?_map, List.getElem?_map]
    rcases Nat.lt_or_ge j l.length with hj | hj
    · rw [List.getElem?_range hj, Option.map_some, Option.map_some]
      congr 2
      apply propext
      omega
    · rw [List.getElem?_eq_none (by simpa using hj)]; rfl
theorem codesTo_start (l : List Nat) : codesTo l 1 0 = List.replicate l.length 0 := by
  apply List.ext_getElem?
  intro j
  unfold codesTo
  rw [List.getElem?_map, List.getElem?_replicate]
  rcases Nat.lt_or_ge j l.length with hj | hj
  · rw [List.getElem?_range hj, if_pos hj, Option.map_some]
    congr 1
    split
    · rename_i h
      rw [codeOf, if_pos (by omega)]
    · rfl
  · rw [List.getElem?_eq_none (by simpa using hj), if_neg (by omega)]; rfl
theorem codesTo_end (l : List Nat) (hv : ∀ x ∈ l, x ≤ 15) : codesTo l 16 0 = codesM l := by
  unfold codesTo codesM
  apply List.map_congr_left
  intro j _
  rw [if_pos (.inl (by have := Rq.getD_le l 15 j hv; omega))]
theorem nn_set (l : List Nat) (i v : Nat) : (nn l).set i (v : Int) = nn (l.set i v) := by simp [nn, List.map_set]
theorem count_take_succ (l : List Nat) (i s : Nat) (h : i < l.length) : (l.take (i + 1)).count s = (l.take i).count s + if l.getD i 0 = s then 1 else 0 := by
  rw [List.take_succ_eq_append_getElem h, List.count_append, List.getD_eq_getElem?_getD, List.getElem?_eq_getElem h, List.count_singleton]
  simp
theorem firstC_le (l : List Nat) (hr : Right l) (s : Nat) (h1 : 1 ≤ s) (h16 : s ≤ 16) : firstC l s ≤ 65536 := by
  rcases Nat.lt_or_ge s 16 with h | h
  · have := Rq.firstC_fits l hr.fits s h1 (by omega)
    have : 2 ^ s ≤ 2 ^ 15 := Nat.pow_le_pow_right (by decide) (by omega)
    omega
  · obtain rfl : s = 16 := by omega
    have := Rq.firstC_fits l hr.fits 15 (by decide) (by decide)
    rw [Rq.firstC_succ l 15 (by decide)]
    omega
theorem codes_l1 (l : List Nat) (hr : Right l) (s : Nat) (hs1 : 1 ≤ s) (hs : s ≤ 15) {r : List Int} (h : ∃ k, code_codes.l0 k (nn l) (nn (codesTo l (s + 1) 0)) ((firstC l s + l.count s : Nat) : Int) ((s + 1 : Nat) : Int) = some r) :
    ∀ d i, i + d = l.length → ∃ k, code_codes.l1 k (nn l) (nn (codesTo l s i)) ((firstC l s + (l.take i).count s : Nat) : Int) (s : Int) (nn l) (l.length : Int) (i : Int) = some r
  | 0, i, hi => by
    obtain rfl : i = l.length := by omega
    obtain ⟨k, hk⟩ := h
    refine ⟨k + 1, ?_⟩
    rw [code_codes.l1, if_neg (by omega), List.take_length, codesTo_next, wc64 _ (by omega)]
    exact hk
  | d + 1, i, hi => by
    obtain ⟨k, hk⟩ := codes_l1 l hr s hs1 hs h d (i + 1) (by omega)
    have hm := hr.many
    have e3 : wrap64 ((i : Int) + 1) = ((i + 1 : Nat) : Int) := by rw [wc64 _ (by omega)]; omega
    have hfc := firstC_le l hr s hs1 (by omega)
    have hct := count_take_succ l i s (by omega)
    have hcl : (l.take i).count s ≤ 288 := by
      have := List.count_le_length (a := s) (l := l.take i)
      rw [List.length_take] at this; omega
    refine ⟨k + 1, ?_⟩
    rw [code_codes.l1, if_pos (by omega), if_pos (by omega), if_pos (by rw [nn_length]; omega), rd_nn, e3]
    by_cases he : l.getD i 0 = s
    · rw [if_pos he] at hct
      rw [if_pos (by omega), if_pos (by rw [nn_length, codesTo_len]; omega), wc64 _ (by omega), Int.toNat_natCast]
      have hcode : codeOf l i = firstC l s + (l.take i).count s := by rw [codeOf, he, if_neg (by omega)]
      have e4 : (nn (codesTo l s i)).set i ((firstC l s + (l.take i).count s : Nat) : Int) = nn (codesTo l s (i + 1)) := by
        rw [nn_set, ← hcode, codesTo_put l s i (by omega) he]
      rw [e4, show (((firstC l s + (l.take i).count s : Nat) : Int) + 1) = ((firstC l s + (l.take (i + 1)).count s : Nat) : Int) by rw [hct]; omega]
      exact hk
    · rw [if_neg he] at hct
      have hct' : (l.take i).count s = (l.take (i + 1)).count s := by omega
      rw [if_neg (by omega), hct', ← codesTo_skip l s i he]
      exact hk
theorem codes_l0 (l : List Nat) (hr : Right l) : ∀ d s, s + d = 16 → 1 ≤ s → ∀ x : Nat, 2 * x = firstC l s → ∃ k, code_codes.l0 k (nn l) (nn (codesTo l s 0)) (x : Int) (s : Int) = some (nn (codesM l))
  | 0, s, h, _, x, _ => by
    obtain rfl : s = 16 := by omega
    refine ⟨1, ?_⟩
    rw [code_codes.l0, if_neg (by decide), codesTo_end l hr.le]
  | d + 1, s, h, h1, x, hx => by
    have ih := codes_l0 l hr d (s + 1) (by omega) (by omega) (firstC l s + l.count s) (by rw [Rq.firstC_succ l s h1])
    obtain ⟨k, hk⟩ := codes_l1 l hr s h1 (by omega) ih l.length 0 (by omega)
    have hfc := firstC_le l hr s h1 (by omega)
    refine ⟨k + 1, ?_⟩
    rw [code_codes.l0, if_pos (by omega), wc64 _ (by omega), nn_length, show ((x : Int) * 2) = ((firstC l s + (l.take 0).count s : Nat) : Int) by simp; omega]
    exact hk
theorem codes_f (l : List Nat) (hr : Right l) : ∃ k, code_Codes.f k (nn l) = some (nn (codesM l), 0) := by
  obtain ⟨k, hk⟩ := codes_l0 l hr 15 1 (by decide) (by decide) 0 (by simp [firstC])
  have hm := hr.many
  have h1 : code_codes.f k (nn l) = some (nn (codesM l)) := by
    rw [code_codes.f, nn_length, if_pos (by omega), if_pos (by omega), Int.toNat_natCast]
    have e : List.replicate l.length (0 : Int) = nn (List.replicate l.length 0) := by simp [nn]
    rw [e, ← codesTo_start l]
    exact hk
  have h2 := check_f l hm hr.le
  rw [if_pos hr.fits] at h2
  obtain ⟨m, g1, g2⟩ := together (g := fun k => code_Check.f k (nn l)) (f := fun k => code_codes.f k (nn l)) (fun k => code_Check.mono _ k) (fun k => code_codes.mono _ k) ⟨_, h2⟩ ⟨_, h1⟩
  refine ⟨m, ?_⟩
  rw [code_Codes.f, g1, Option.bind_some, if_pos rfl, g2, Option.bind_some]
theorem codes_calls {w : World} {A : Option Addr} {n c : Nat} {l : List Nat} (hr : Kd.C (Kd.int .i64) w A n (nn l)) (hc : n ≤ c) (hR : Right l) :
    Calls Try.prog 66 #[.slice A n c] w fun e w' => ∃ v, e = .returned (.tuple #[v, .int .i64 0]) ∧ Kd.R (Kd.int .i64) 3 w' w.heap.size (fun _ => True) v (nn (codesM l)) ∧ Below w.heap.size w w' := by
  obtain rfl : l.length = n := by have := hr.1; rw [nn_length] at this; exact this
  obtain ⟨k, hk⟩ := codes_f l hR
  have h := code_Codes.calls k A c (nn l) _ _ w (by rw [nn_length]; exact hr) (by rw [nn_length]; exact hc) hk
  rw [nn_length] at h
  exact h
end Go.Proofs.Ythfkjejjndgajaa

/- The lengths of the code that is told to nobody (block.FixedCode). -/
namespace Go.Proofs.Ythfkjejjndgajaa
open Go.RowKit Go.Proofs.YthfkjejjndgajaaW.PrintWords Go.Proofs.YthfkjejjndgajaaW.PrintLast Go.Proofs.YthfkjejjndgajaaW.PrintMore Go.Proofs.Ythfkjejjndgajaa.PFixedCode
open Rq (fixedLit fixedFar)

def fixAt (k : Nat) : Nat := if 144 ≤ k ∧ k < 256 then 9 else if 256 ≤ k ∧ k < 280 then 7 else 8
theorem wf64 (z : Int) (h : -1000000000 ≤ z ∧ z ≤ 1000000000) : wrap64 z = z := by unfold wrap64; omega
theorem fixed_l1 (x0 : List Int) : ∀ d i, i + d = 32 → block_FixedCode.l1 (d + 1) x0 (nn (List.replicate i 5)) (i : Int) = some (x0, nn fixedFar)
  | 0, i, h => by
    obtain rfl : i = 32 := by omega
    rw [block_FixedCode.l1, if_neg (by decide)]; rfl
  | d + 1, i, h => by
    have e3 : wrap64 ((i : Int) + 1) = ((i + 1 : Nat) : Int) := by rw [wf64 _ (by omega)]; omega
    have e4 : nn (List.replicate i 5) ++ [5] = nn (List.replicate (i + 1) 5) := by rw [List.replicate_succ', nn_append]; rfl
    rw [block_FixedCode.l1, if_pos (by omega), if_pos (by rw [nn_length, List.length_replicate]; omega), e3, e4]
    exact fixed_l1 x0 d (i + 1) (by omega)
theorem fixed_l0 : ∀ d i, i + d = 288 → block_FixedCode.l0 (2 * d + 40) (nn ((List.range i).map fixAt)) (i : Int) = some (nn fixedLit, nn fixedFar)
  | 0, i, h => by
    obtain rfl : i = 288 := by omega
    rw [block_FixedCode.l0, if_neg (by decide)]
    have h1 := fixed_l1 (nn fixedLit) 32 0 rfl
    have h2 := block_FixedCode.mono_l 33
    have h3 : LeO (block_FixedCode.l1 33 (nn fixedLit) [] 0) (block_FixedCode.l1 39 (nn fixedLit) [] 0) := by
      have hm : ∀ k, LeO (block_FixedCode.l1 k (nn fixedLit) [] 0) (block_FixedCode.l1 (k + 1) (nn fixedLit) [] 0) := fun k => (block_FixedCode.mono_l k).2.2 _ _ _
      exact more_rounds (g := fun k => block_FixedCode.l1 k (nn fixedLit) [] 0) hm 33 6
    exact h3 _ h1
  | d + 1, i, h => by
    have e3 : wrap64 ((i : Int) + 1) = ((i + 1 : Nat) : Int) := by rw [wf64 _ (by omega)]; omega
    have ih := fixed_l0 d (i + 1) (by omega)
    have hlen : (nn ((List.range i).map fixAt)).length < 17592186044416 := by rw [nn_length, List.length_map, List.length_range]; omega
    have app : ∀ v : Nat, v = fixAt i → nn ((List.range i).map fixAt) ++ [(v : Int)] = nn ((List.range (i + 1)).map fixAt) := by
      intro v hv; subst hv; rw [List.range_succ, List.map_append, nn_append]; rfl
    rw [show 2 * (d + 1) + 40 = 2 * d + 40 + 1 + 1 by omega, block_FixedCode.l0, if_pos (by omega)]
    by_cases h1 : 144 ≤ i
    · rw [if_pos (by omega)]
      by_cases h2 : i < 256
      · rw [show decide ((i : Int) < 256) = true by simp; omega, block_FixedCode.j1, if_pos rfl, if_pos hlen, e3]
        have := app 9 (by unfold fixAt; rw [if_pos ⟨h1, h2⟩])
        rw [show ((9 : Nat) : Int) = 9 by rfl] at this
        rw [this]; exact ih
      · rw [show decide ((i : Int) < 256) = false by simp; omega, block_FixedCode.j1, if_neg (by decide), if_pos (by omega)]
        by_cases h3 : i < 280
        · rw [if_pos (by omega), if_pos hlen, e3]
          have := app 7 (by unfold fixAt; rw [if_neg (by omega), if_pos (by omega)])
          rw [show ((7 : Nat) : Int) = 7 by rfl] at this
          rw [this]; exact ih
        · rw [if_neg (by omega), if_pos hlen, e3]
          have := app 8 (by unfold fixAt; rw [if_neg (by omega), if_neg (by omega)])
          rw [show ((8 : Nat) : Int) = 8 by rfl] at this
          rw [this]; exact ih
    · rw [if_neg (by omega), block_FixedCode.j1, if_neg (by decide), if_neg (by omega), if_pos hlen, e3]
      have := app 8 (by unfold fixAt; rw [if_neg (by omega), if_neg (by omega)])
      rw [show ((8 : Nat) : Int) = 8 by rfl] at this
      rw [this]; exact ih
theorem fixed_calls (w : World) :
    Calls Try.prog 37 #[] w fun e w' => ∃ v1 v2 : Value, e = .returned (.tuple #[v1, v2]) ∧ Kd.R (Kd.int .i64) 3 w' w.heap.size (fun _ => True) v1 (nn fixedLit) ∧ Kd.R (Kd.int .i64) 3 w' w.heap.size (fun _ => True) v2 (nn fixedFar) ∧ Below w.heap.size w w' := by
  refine (block_FixedCode.calls (2 * 288 + 40) (nn fixedLit) (nn fixedFar) w (fixed_l0 288 0 rfl)).mono ?_
  rintro e w' ⟨v1, v2, rfl, h1, h2, h3⟩
  exact ⟨v1, v2, rfl, Kd.R_mono h1 (fun _ _ => trivial), Kd.R_mono h2 (fun _ _ => trivial), h3⟩
end Go.Proofs.Ythfkjejjndgajaa
