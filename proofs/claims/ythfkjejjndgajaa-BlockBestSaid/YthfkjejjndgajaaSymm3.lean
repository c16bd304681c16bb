/- Two sorted stretches side by side are put together (slices.symMergeCmpFunc). -/
import Derived.Test.YthfkjejjndgajaaMSymm
import Derived.Deep.DeepCutAuto
namespace Go.Proofs.Ythfkjejjndgajaa
open Go.RowKit Go.Proofs.YthfkjejjndgajaaW.PrintWords Go.Sort Go.Lib Go.Shelf
open Go.Proofs (SWK RowK)
open Rq (mrg isort Up)

/-- What symMerge does to stretches of at most N together. -/
def SymmOK (w0 : World) (blk off cap : Nat) (d0 : Array Pg) (N : Nat) : Prop :=
  ∀ (pre A B post : List Pg) (W : World) (az mz bz : Int), A.length + B.length ≤ N → 0 < A.length → 0 < B.length → (pre ++ A ++ B ++ post).length = d0.size →
    Up Pg.w A → Up Pg.w B → Light A → Light B → SWP w0 blk off (pre ++ A ++ B ++ post).toArray W → az = (pre.length : Nat) → mz = (pre.length + A.length : Nat) → bz = (pre.length + A.length + B.length : Nat) →
    Calls Try.prog 121 #[.slice (some ⟨blk, off, none⟩) d0.size cap, .int .i64 az, .int .i64 mz, .int .i64 bz, cmpF] W fun e w' =>
      e = .returned (.tuple #[]) ∧ SWP w0 blk off (pre ++ mrg Pg.w A B ++ post).toArray w'

/-- What is known at the end of the search: how the two are cut. -/
structure CutAt (A B : List Pg) (a m b mid s : Nat) : Prop where
  as_ : a ≤ s
  sm : s ≤ m
  smid : s ≤ mid
  e1 : m + mid - s ≤ b
  le : ∀ x ∈ A.take (s - a), ∀ y ∈ B.drop (mid - s), x.w ≤ y.w
  lt : ∀ x ∈ A.drop (s - a), ∀ y ∈ B.take (mid - s), y.w < x.w

theorem cut_mrg {A B : List Pg} {a m b mid s : Nat} (h : CutAt A B a m b mid s) : mrg Pg.w A B = mrg Pg.w (A.take (s - a)) (B.take (mid - s)) ++ mrg Pg.w (A.drop (s - a)) (B.drop (mid - s)) := by
  have := Rq.mrg_cut Pg.w (A.take (s - a)) (A.drop (s - a)) (B.take (mid - s)) (B.drop (mid - s)) h.lt h.le
  rw [List.take_append_drop, List.take_append_drop] at this
  exact this

/-- The search's state: how far it has come from the left, and from the right. -/
def LeftOf (A B : List Pg) (a mid s0 s : Nat) : Prop := s = s0 ∨ ∃ x y, A[s - 1 - a]? = some x ∧ B[mid - s]? = some y ∧ x.w ≤ y.w ∧ s0 < s
def RightOf (A B : List Pg) (a mid r0 r : Nat) : Prop := r = r0 ∨ ∃ x y, A[r - a]? = some x ∧ B[mid - 1 - r]? = some y ∧ y.w < x.w ∧ r < r0

theorem cut_found {A B : List Pg} (hA : Up Pg.w A) (hB : Up Pg.w B) {a m b mid s0 r0 s : Nat} (hm : m = a + A.length) (hb : b = m + B.length) (hmid : mid = (a + b) / 2)
    (h0 : (mid < m ∧ s0 = mid + m - b ∧ r0 = mid) ∨ (m ≤ mid ∧ s0 = a ∧ r0 = m)) (hs0 : s0 ≤ s) (hr0 : s ≤ r0)
    (hl : LeftOf A B a mid s0 s) (hr : RightOf A B a mid r0 s) : CutAt A B a m b mid s := by
  refine ⟨by omega, by omega, by omega, by omega, ?_, ?_⟩
  · rcases hl with rfl | ⟨x, y, hx, hy, hxy, hlt⟩
    · rcases h0 with ⟨h1, h2, h3⟩ | ⟨h1, h2, h3⟩
      · rw [List.drop_of_length_le (by omega)]; simp
      · subst h2; simp
    · intro u hu v hv
      have e : s - a = (s - 1 - a) + 1 := by omega
      rw [e] at hu
      have h1 := (up_take hA _ _ hx).1 u hu
      have h2 := (up_take hB _ _ hy).2 v hv
      omega
  · rcases hr with rfl | ⟨x, y, hx, hy, hxy, hlt⟩
    · rcases h0 with ⟨h1, h2, h3⟩ | ⟨h1, h2, h3⟩
      · subst h3; simp
      · rw [List.drop_of_length_le (by omega)]; simp
    · intro u hu v hv
      have hpos : (B[mid - 1 - s]?) = some y := hy
      rcases Nat.lt_or_ge s mid with hlt2 | hge
      · have e : mid - s = (mid - 1 - s) + 1 := by omega
        rw [e] at hv
        have h1 := (up_take hB _ _ hy).1 v hv
        have h2 := (up_take hA _ _ hx).2 u hu
        omega
      · rw [show mid - s = 0 by omega] at hv; simp at hv

/-- 'x < y && u < v' as one. -/
def both2 (x y u v : Nat) : Bool := decide (x < y ∧ u < v)
theorem both2_yes {x y u v : Nat} (h1 : x < y) (h2 : u < v) : both2 x y u v = true := by simp [both2, h1, h2]
theorem both2_no1 {x y u v : Nat} (h1 : ¬ x < y) : both2 x y u v = false := by simp [both2, h1]
theorem both2_no2 {x y u v : Nat} (h2 : ¬ u < v) : both2 x y u v = false := by simp [both2, h2]

section
variable {w0 W wr : World} {blk off cap : Nat} {d0 dk : Array Pg}
set_option maxHeartbeats 4000000 in
set_option maxRecDepth 100000 in
theorem symm_gen (R : RowP w0 blk off d0) (hbig : d0.size ≤ 1000000) (N : Nat) (ih : SymmOK w0 blk off cap d0 N)
    (pre A B post : List Pg) (W : World) (az mz bz : Int) (hN : A.length + B.length ≤ N + 1) (hA2 : 2 ≤ A.length) (hB2 : 2 ≤ B.length) (hs : (pre ++ A ++ B ++ post).length = d0.size)
    (hA : Up Pg.w A) (hB : Up Pg.w B) (hlA : Light A) (hlB : Light B) (h : SWP w0 blk off (pre ++ A ++ B ++ post).toArray W) (ha : az = (pre.length : Nat)) (hm : mz = (pre.length + A.length : Nat)) (hb : bz = (pre.length + A.length + B.length : Nat)) :
    Calls Try.prog 121 #[.slice (some ⟨blk, off, none⟩) d0.size cap, .int .i64 az, .int .i64 mz, .int .i64 bz, cmpF] W fun e w' =>
      e = .returned (.tuple #[]) ∧ SWP w0 blk off (pre ++ mrg Pg.w A B ++ post).toArray w' := by
  have HR := Aside0.mk R
  have HS := Aside0.mk h
  have hsz : pre.length + A.length + B.length + post.length = d0.size := by
    have := hs; simp only [List.length_append] at this; omega
  obtain ⟨a, hal⟩ : ∃ a, a = pre.length := ⟨_, rfl⟩
  obtain ⟨m, hml⟩ : ∃ m, m = pre.length + A.length := ⟨_, rfl⟩
  obtain ⟨b, hbl⟩ : ∃ b, b = pre.length + A.length + B.length := ⟨_, rfl⟩
  obtain ⟨mid, hmid⟩ : ∃ mid, mid = (a + b) / 2 := ⟨_, rfl⟩
  rw [← hbl] at hb
  rw [← hml] at hm
  rw [← hal] at ha
  have HA := Aside0.mk (And.intro hal (And.intro hml hbl))
  have HSl := Aside0.mk (And.intro hs hsz)
  have HMid := Aside0.mk hmid
  have e0 : (((m : Int) - a) == 1) = false := by rw [beq_eq_false_iff_ne]; omega
  have e1 : (((b : Int) - m) == 1) = false := by rw [beq_eq_false_iff_ne]; omega
  have e2 : IntKind.i64.wrap ((m : Int) - a) = (m : Int) - a := IntWalk.i64_in _ (by omega)
  have e3 : IntKind.i64.wrap ((b : Int) - m) = (b : Int) - m := IntWalk.i64_in _ (by omega)
  have ham : a + 2 ≤ m := by omega
  have hmb : m + 2 ≤ b := by omega
  have hbd : b ≤ d0.size := by omega
  have hamid : a < mid := by omega
  have hmidb : mid < b := by omega
  subst ha hm hb
  have HB := Aside0.mk (And.intro (And.intro hA hB) (And.intro hlA hlB))
  have HIH := Aside0.mk ih
  have HN := Aside0.mk hN
  have mixed : Try.prog.follows .mixedOrders = true := by kernel_rfl
  have m1 : ((a : Int) + b) / 2 = (mid : Int) := by omega
  have m2 : IntKind.u64.wrap ((a : Int) + b) = (a : Int) + b := IntWalk.u64_in _ (by omega)
  have m3 : (Op.shift .shr .u64 ((a : Int) + b) .u64 1 : Sem Value) = pure (.int .u64 (mid : Int)) := by
    rw [shift_shr_any _ _ _ _ (by decide)]; simp [IntKind.bits, m1]
  have m4 : (m : Int) - 1 < d0.size := by omega
  have hm1 : 2 * mid ≤ a + b := by omega
  have hm2 : a + b < 2 * mid + 2 := by omega
  clear R h hs hsz hal hml hbl hA hB hlA hlB hA2 hB2 ih hN hmid m1
  go_enter Try.func121, Try.ntmps121
  go_upto_if 140 with fail
  go_cut [20, 21] (fun v20 v21 wx => ∃ s0 r0 : Nat, v20 = .int .i64 s0 ∧ v21 = .int .i64 r0 ∧ wx = W ∧ a ≤ s0 ∧ s0 ≤ r0 ∧ r0 ≤ m ∧ r0 ≤ mid ∧ Aside0 ((mid < m ∧ s0 = mid + m - b ∧ r0 = mid) ∨ (m ≤ mid ∧ s0 = a ∧ r0 = m)))
  case first =>
    as_aux_lemma =>
    by_cases hc : mid < m
    · have t1 : (mid : Int) < m := by omega
      obtain ⟨s0, hs0⟩ : ∃ s0, s0 = mid + m - b := ⟨_, rfl⟩
      have t2 : (mid : Int) + m - b = (s0 : Int) := by omega
      have Hs0 := Aside0.mk hs0
      clear hs0
      go_wp2_with fail
      go_meet
      exact ⟨s0, mid, rfl, rfl, rfl, by have := Hs0.out; omega, by have := Hs0.out; omega, by omega, Nat.le_refl _, ⟨.inl ⟨hc, Hs0.out, rfl⟩⟩⟩
    · have t1 : ¬ (mid : Int) < m := by omega
      go_wp2_with fail
      go_meet
      exact ⟨a, m, rfl, rfl, rfl, Nat.le_refl _, by omega, Nat.le_refl _, by omega, ⟨.inr ⟨by omega, rfl, rfl⟩⟩⟩
  case rest =>
    obtain ⟨s0, r0, rfl, rfl, rfl, hs0a, hsr, hr0m, hr0mid, H0⟩ := hcut
    go_wp2_with fail
    go_loopg [20, 21] (r0 - s0) (fun g1 vi vj wr => ∃ (i j : Nat), vi = .int .i64 i ∧ vj = .int .i64 j ∧ s0 ≤ i ∧ i ≤ j ∧ j ≤ r0 ∧ j - i ≤ g1 ∧ Aside0 (LeftOf A B a mid s0 i ∧ RightOf A B a mid r0 j ∧ SWP w0 blk off (pre ++ A ++ B ++ post).toArray wr))
    case atStart => exact ⟨s0, r0, rfl, rfl, Nat.le_refl _, hsr, Nat.le_refl _, Nat.le_refl _, ⟨.inl rfl, .inl rfl, HS.out⟩⟩
    case round =>
      obtain ⟨i, j, rfl, rfl, hmi, hij, hjb, hg, HI⟩ := hrel
      by_cases hlt : i < j
      · as_aux_lemma =>
        obtain ⟨c, hcd⟩ : ∃ c, c = (i + j) / 2 := ⟨_, rfl⟩
        have q1 : i ≤ c := by omega
        have q2 : c < j := by omega
        have hcA : c - a < A.length := by have := HA.out; omega
        have hcB : mid - 1 - c < B.length := by have := HA.out; rcases H0.out with h | h <;> omega
        obtain ⟨x, hx⟩ : ∃ x, A[c - a]? = some x := ⟨_, List.getElem?_eq_getElem hcA⟩
        obtain ⟨y, hy⟩ : ∃ y, B[mid - 1 - c]? = some y := ⟨_, List.getElem?_eq_getElem hcB⟩
        obtain ⟨pc, hpc⟩ : ∃ pc, pc = mid + m - 1 - c := ⟨_, rfl⟩
        have c1 : ((i : Int) + j) / 2 = (c : Int) := by omega
        have c2 : IntKind.u64.wrap ((i : Int) + j) = (i : Int) + j := IntWalk.u64_in _ (by omega)
        have c3 : (Op.shift .shr .u64 ((i : Int) + j) .u64 1 : Sem Value) = pure (.int .u64 (c : Int)) := by
          rw [shift_shr_any _ _ _ _ (by decide)]; simp [IntKind.bits, c1]
        have c4 : (mid : Int) + m - 1 - c = (pc : Int) := by omega
        have c5 : IntKind.i64.wrap (pc : Int) = (pc : Int) := IntWalk.i64_in _ (by omega)
        have hsw := HI.out.2.2
        have hdl : (pre ++ A ++ B ++ post).toArray.size = d0.size := by simpa using HSl.out.1
        have hx1 : (pre ++ A ++ B ++ post).toArray[c]! = x := arr_at (by
          have h1 := HA.out
          rw [List.append_assoc, List.append_assoc, List.getElem?_append_right (by omega), List.getElem?_append_left (by omega), ← h1.1]
          exact hx)
        have hy1 : (pre ++ A ++ B ++ post).toArray[pc]! = y := arr_at (by
          have h1 := HA.out
          rw [List.append_assoc, List.getElem?_append_right (by rw [List.length_append]; omega), List.getElem?_append_left (by rw [List.length_append]; omega), List.length_append, show pc - (pre.length + A.length) = mid - 1 - c by omega]
          exact hy)
        have hxl : x.w ≤ 1000000000000 := HB.out.2.1 x (List.mem_of_getElem? hx)
        have hyl : y.w ≤ 1000000000000 := HB.out.2.2 y (List.mem_of_getElem? hy)
        have pcd : pc < d0.size := by have := HA.out; omega
        obtain ⟨y0, y1, x0, x1, hcg⟩ := cmp_at hsw HR.out hdl pc c pcd (by omega) y x hy1 hx1 hyl hxl
        have HC := Aside0.mk hcg
        have HW2 := Aside0.mk hsw
        have HX := Aside0.mk (And.intro hx (And.intro hy (And.intro hcd hpc)))
        have p1 : (c : Int) < d0.size := by omega
        have p2 : (pc : Int) < d0.size := by omega
        clear hx hy hsw hdl hx1 hy1 hxl hyl hcg hcd hpc c1 hcA hcB
        by_cases hlv : y.w < x.w
        · have j7 : decide ((y.w : Int) - x.w < 0) = true := by simp; omega
          have j8 : (y.w : Int) - x.w < 0 := by omega
          go_wp2_with fail
          go_quiet_grown (first | (go_at_call 90; refine Calls.grown_of (HC.out _ _)))
          go_wp2_with fail
          go_roundg (c - i)
          case measure => omega
          case rel => exact ⟨i, c, rfl, rfl, hmi, by omega, by omega, Nat.le_refl _, ⟨HI.out.1, .inr ⟨x, y, HX.out.1, HX.out.2.1, hlv, by omega⟩, HW2.out.grown nq osq⟩⟩
        · have j7 : decide ((y.w : Int) - x.w < 0) = false := by simp; omega
          have j8 : ¬ (y.w : Int) - x.w < 0 := by omega
          go_wp2_with fail
          go_quiet_grown (first | (go_at_call 90; refine Calls.grown_of (HC.out _ _)))
          go_wp2_with fail
          go_roundg (j - (c + 1))
          case measure => omega
          case rel =>
            refine ⟨c + 1, j, by go_num, rfl, by omega, by omega, hjb, Nat.le_refl _, ⟨.inr ⟨x, y, ?_, ?_, by omega, by omega⟩, HI.out.2.1, HW2.out.grown nq osq⟩⟩
            · rw [show c + 1 - 1 - a = c - a by omega]; exact HX.out.1
            · rw [show mid - (c + 1) = mid - 1 - c by omega]; exact HX.out.2.1
      · obtain rfl : i = j := by omega
        have hcut : CutAt A B a m b mid i := cut_found HB.out.1.1 HB.out.1.2 (by have := HA.out; omega) (by have := HA.out; omega) HMid.out H0.out hmi hjb HI.out.1 HI.out.2.1
        have HCut := Aside0.mk hcut
        have HSW := Aside0.mk HI.out.2.2
        obtain ⟨e, he⟩ : ∃ e, e = mid + m - i := ⟨_, rfl⟩
        have He := Aside0.mk he
        have t5 : (mid : Int) + m - i = (e : Int) := by omega
        have hai : a ≤ i := by omega
        have him : i ≤ m := by omega
        have himid : i ≤ mid := by omega
        have hme : m ≤ e := by omega
        have heb : e ≤ b := by have := hcut.e1; omega
        have hmide : mid ≤ e := by omega
        have lA1 : (A.take (i - a)).length = i - a := by rw [List.length_take]; have := HA.out; omega
        have lA2 : (A.drop (i - a)).length = m - i := by rw [List.length_drop]; have := HA.out; omega
        have lB1 : (B.take (mid - i)).length = mid - i := by rw [List.length_take]; have := HA.out; omega
        have lB2 : (B.drop (mid - i)).length = b - e := by rw [List.length_drop]; have := HA.out; omega
        have eA : A.take (i - a) ++ A.drop (i - a) = A := List.take_append_drop _ _
        have eB : B.take (mid - i) ++ B.drop (mid - i) = B := List.take_append_drop _ _
        have hmrg := cut_mrg hcut
        have hup : (Up Pg.w (A.take (i - a)) ∧ Up Pg.w (A.drop (i - a))) ∧ (Up Pg.w (B.take (mid - i)) ∧ Up Pg.w (B.drop (mid - i))) :=
          ⟨⟨List.Pairwise.sublist (List.take_sublist _ _) HB.out.1.1, List.Pairwise.sublist (List.drop_sublist _ _) HB.out.1.1⟩, ⟨List.Pairwise.sublist (List.take_sublist _ _) HB.out.1.2, List.Pairwise.sublist (List.drop_sublist _ _) HB.out.1.2⟩⟩
        have hli : (Light (A.take (i - a)) ∧ Light (A.drop (i - a))) ∧ (Light (B.take (mid - i)) ∧ Light (B.drop (mid - i))) :=
          ⟨⟨fun q hq => HB.out.2.1 q (List.mem_of_mem_take hq), fun q hq => HB.out.2.1 q (List.mem_of_mem_drop hq)⟩, ⟨fun q hq => HB.out.2.2 q (List.mem_of_mem_take hq), fun q hq => HB.out.2.2 q (List.mem_of_mem_drop hq)⟩⟩
        have hS3 := HSW.out
        have hL3 := HSl.out.1
        rw [← eA, ← eB] at hS3 hL3
        clear eA eB
        obtain ⟨A1, hA1⟩ : ∃ l, l = A.take (i - a) := ⟨_, rfl⟩
        obtain ⟨A2, hA2⟩ : ∃ l, l = A.drop (i - a) := ⟨_, rfl⟩
        obtain ⟨B1, hB1⟩ : ∃ l, l = B.take (mid - i) := ⟨_, rfl⟩
        obtain ⟨B2, hB2⟩ : ∃ l, l = B.drop (mid - i) := ⟨_, rfl⟩
        rw [← hA1, ← hA2, ← hB1, ← hB2] at hS3 hL3 hmrg hup hli
        rw [← hA1] at lA1
        rw [← hA2] at lA2
        rw [← hB1] at lB1
        rw [← hB2] at lB2
        have HS3 := Aside0.mk hS3
        have HL3 := Aside0.mk hL3
        have HMR := Aside0.mk hmrg
        have HUP := Aside0.mk (And.intro hup hli)
        have HLen := Aside0.mk (And.intro lA1 (And.intro lA2 (And.intro lB1 lB2)))
        have HNN : Aside0 (A1.length + B1.length ≤ N ∧ A2.length + B2.length ≤ N) := ⟨by have := HN.out; have := HA.out; have := HLen.out; omega⟩
        clear hA1 hA2 hB1 hB2 hS3 hL3 hmrg hup hli lA1 lA2 lB1 lB2 hcut HI he hlt
        go_upto_region 39 with fail
        go_cut [185] (fun vv wx => ∃ bb : Bool, vv = .bool bb ∧ wx = wr ∧ Aside0 (bb = both2 i m m e))
        case first =>
          as_aux_lemma =>
          by_cases r1 : i < m
          · have g1 : (i : Int) < m := by omega
            have g1' : decide ((i : Int) < m) = true := decide_eq_true g1
            by_cases r2 : m < e
            · have g2 : (m : Int) < e := by omega
              have g2' : decide ((m : Int) < e) = true := decide_eq_true g2
              go_wp2_with fail
              go_meet
              exact ⟨true, rfl, rfl, ⟨by rw [both2_yes r1 r2]⟩⟩
            · have g2 : ¬ (m : Int) < e := by omega
              have g2' : decide ((m : Int) < e) = false := decide_eq_false g2
              go_wp2_with fail
              go_meet
              exact ⟨false, rfl, rfl, ⟨by rw [both2_no2 r2]⟩⟩
          · have g1 : ¬ (i : Int) < m := by omega
            have g1' : decide ((i : Int) < m) = false := decide_eq_false g1
            go_wp2_with fail
            go_meet
            exact ⟨false, rfl, rfl, ⟨by rw [both2_no1 r1]⟩⟩
        case rest =>
          obtain ⟨bb, rfl, hwx, hbb⟩ := hcut
          subst hwx
          go_upto_if 185 with fail
          go_cut [] (fun wx => Aside0 (SWP w0 blk off (pre ++ A1 ++ B1 ++ (A2 ++ B2 ++ post)).toArray wx))
          case first =>
            as_aux_lemma =>
            cases bb with
            | true =>
              have r1' : Aside0 (i < m ∧ m < e) := ⟨by have h := hbb.out; unfold both2 at h; exact of_decide_eq_true h.symm⟩
              go_wp2_with fail
              refine (rotate_calls HR.out (pre ++ A1) A2 B1 (B2 ++ post) (by have := HLen.out; have := r1'.out; omega) (by have := HLen.out; have := He.out; have := r1'.out; omega) (by have := HL3.out; simp only [List.length_append] at this ⊢; omega) hbig (by simpa using HS3.out) _ _ _ (by have := HLen.out; have := HA.out; rw [List.length_append]; omega) (by have := HLen.out; have := HA.out; rw [List.length_append]; omega) (by have := HLen.out; have := HA.out; have := He.out; rw [List.length_append]; omega)).mono ?_
              rintro e1_ w1 ⟨rfl, hsw1⟩
              have H1 := Aside0.mk hsw1
              clear hsw1
              go_wp2_with fail
              go_meet
              exact ⟨by simpa using H1.out⟩
            | false =>
              have r1' : Aside0 (¬ (i < m ∧ m < e)) := ⟨by have h := hbb.out; unfold both2 at h; exact of_decide_eq_false h.symm⟩
              go_wp2_with fail
              go_meet
              refine ⟨?_⟩
              have h3 := HS3.out
              rcases Nat.eq_zero_or_pos B1.length with hz | hz
              · have hz := List.eq_nil_of_length_eq_zero hz
                subst hz; simpa using h3
              · have hz : A2 = [] := List.eq_nil_of_length_eq_zero (by have := HLen.out; have := r1'.out; have := He.out; omega)
                subst hz; simpa using h3
          case rest =>
            have H1 := hcut
            clear hcut
            go_upto_region 41 with fail
            go_cut [199] (fun vv wx => ∃ bb : Bool, vv = .bool bb ∧ wx = wc ∧ Aside0 (bb = both2 a i i mid))
            case first =>
              as_aux_lemma =>
              by_cases r1 : a < i
              · have g1 : (a : Int) < i := by omega
                have g1' : decide ((a : Int) < i) = true := decide_eq_true g1
                by_cases r2 : i < mid
                · have g2 : (i : Int) < mid := by omega
                  have g2' : decide ((i : Int) < mid) = true := decide_eq_true g2
                  go_wp2_with fail
                  go_meet
                  exact ⟨true, rfl, rfl, ⟨by rw [both2_yes r1 r2]⟩⟩
                · have g2 : ¬ (i : Int) < mid := by omega
                  have g2' : decide ((i : Int) < mid) = false := decide_eq_false g2
                  go_wp2_with fail
                  go_meet
                  exact ⟨false, rfl, rfl, ⟨by rw [both2_no2 r2]⟩⟩
              · have g1 : ¬ (a : Int) < i := by omega
                have g1' : decide ((a : Int) < i) = false := decide_eq_false g1
                go_wp2_with fail
                go_meet
                exact ⟨false, rfl, rfl, ⟨by rw [both2_no1 r1]⟩⟩
            case rest =>
              obtain ⟨bb, rfl, hwx, hbb⟩ := hcut
              subst hwx
              go_upto_if 199 with fail
              go_cut [] (fun wx => Aside0 (SWP w0 blk off (pre ++ mrg Pg.w A1 B1 ++ (A2 ++ B2 ++ post)).toArray wx))
              case first =>
                as_aux_lemma =>
                cases bb with
                | true =>
                  have r1' : Aside0 (a < i ∧ i < mid) := ⟨by have h := hbb.out; unfold both2 at h; exact of_decide_eq_true h.symm⟩
                  go_wp2_with fail
                  have HAz : (a : Int) = (pre.length : Nat) := by rw [HA.out.1]
                  have HAm : (i : Int) = (pre.length + A1.length : Nat) := by have := HLen.out; have := HA.out; omega
                  have HAn : (mid : Int) = (pre.length + A1.length + B1.length : Nat) := by have := HLen.out; have := HA.out; omega
                  have HZ := Aside0.mk (And.intro HAz (And.intro HAm HAn))
                  clear HAz HAm HAn
                  go_wp2_with fail
                  refine (HIH.out pre A1 B1 (A2 ++ B2 ++ post) _ _ _ _ HNN.out.1 (by have := HLen.out; have := r1'.out; omega) (by have := HLen.out; have := r1'.out; omega) (by have := HL3.out; simp only [List.length_append] at this ⊢; omega) HUP.out.1.1.1 HUP.out.1.2.1 HUP.out.2.1.1 HUP.out.2.2.1 H1.out HZ.out.1 HZ.out.2.1 HZ.out.2.2).mono ?_
                  rintro e1_ w1 ⟨rfl, hsw1⟩
                  have H2 := Aside0.mk hsw1
                  clear hsw1
                  go_wp2_with fail
                  go_meet
                  exact H2
                | false =>
                  have r1' : Aside0 (¬ (a < i ∧ i < mid)) := ⟨by have h := hbb.out; unfold both2 at h; exact of_decide_eq_false h.symm⟩
                  go_wp2_with fail
                  go_meet
                  refine ⟨?_⟩
                  have h3 := H1.out
                  rcases Nat.eq_zero_or_pos B1.length with hz | hz
                  · have hz := List.eq_nil_of_length_eq_zero hz
                    subst hz; rw [Rq.mrg_nil_right]; simpa using h3
                  · have hz : A1 = [] := List.eq_nil_of_length_eq_zero (by have := HLen.out; have := r1'.out; have := He.out; omega)
                    subst hz; rw [Rq.mrg_nil_left]; simpa using h3
              case rest =>
                have H2 := hcut
                clear hcut
                go_upto_region 43 with fail
                go_cut [213] (fun vv wx => ∃ bb : Bool, vv = .bool bb ∧ wx = wc ∧ Aside0 (bb = both2 mid e e b))
                case first =>
                  as_aux_lemma =>
                  by_cases r1 : mid < e
                  · have g1 : (mid : Int) < e := by omega
                    have g1' : decide ((mid : Int) < e) = true := decide_eq_true g1
                    by_cases r2 : e < b
                    · have g2 : (e : Int) < b := by omega
                      have g2' : decide ((e : Int) < b) = true := decide_eq_true g2
                      go_wp2_with fail
                      go_meet
                      exact ⟨true, rfl, rfl, ⟨by rw [both2_yes r1 r2]⟩⟩
                    · have g2 : ¬ (e : Int) < b := by omega
                      have g2' : decide ((e : Int) < b) = false := decide_eq_false g2
                      go_wp2_with fail
                      go_meet
                      exact ⟨false, rfl, rfl, ⟨by rw [both2_no2 r2]⟩⟩
                  · have g1 : ¬ (mid : Int) < e := by omega
                    have g1' : decide ((mid : Int) < e) = false := decide_eq_false g1
                    go_wp2_with fail
                    go_meet
                    exact ⟨false, rfl, rfl, ⟨by rw [both2_no1 r1]⟩⟩
                case rest =>
                  obtain ⟨bb, rfl, hwx, hbb⟩ := hcut
                  subst hwx
                  cases bb with
                  | true =>
                    have r1' : Aside0 (mid < e ∧ e < b) := ⟨by have h := hbb.out; unfold both2 at h; exact of_decide_eq_true h.symm⟩
                    go_wp2_with fail
                    refine (HIH.out (pre ++ mrg Pg.w A1 B1) A2 B2 post _ _ _ _ HNN.out.2 (by have := HLen.out; have := He.out; have := r1'.out; omega) (by have := HLen.out; have := r1'.out; omega) (by have := HL3.out; simp only [List.length_append, Rq.mrg_length] at this ⊢; omega) HUP.out.1.1.2 HUP.out.1.2.2 HUP.out.2.1.2 HUP.out.2.2.2 (by simpa using H2.out) (by have := HLen.out; have := HA.out; rw [List.length_append, Rq.mrg_length]; omega) (by have := HLen.out; have := HA.out; have := He.out; rw [List.length_append, Rq.mrg_length]; omega) (by have := HLen.out; have := HA.out; have := He.out; rw [List.length_append, Rq.mrg_length]; omega)).mono ?_
                    rintro e1_ w1 ⟨rfl, hsw1⟩
                    have H3 := Aside0.mk hsw1
                    clear hsw1
                    go_wp2_with fail
                    go_end0
                    exact ⟨rfl, by rw [HMR.out]; simpa using H3.out⟩
                  | false =>
                    have r1' : Aside0 (¬ (mid < e ∧ e < b)) := ⟨by have h := hbb.out; unfold both2 at h; exact of_decide_eq_false h.symm⟩
                    go_wp2_with fail
                    go_end0
                    refine ⟨rfl, ?_⟩
                    have h3 := H2.out
                    rw [HMR.out]
                    rcases Nat.eq_zero_or_pos B2.length with hz | hz
                    · have hz := List.eq_nil_of_length_eq_zero hz
                      subst hz; rw [show mrg Pg.w A2 [] = A2 from Rq.mrg_nil_right _ _]; simpa using h3
                    · have hz : A2 = [] := List.eq_nil_of_length_eq_zero (by have := HLen.out; have := r1'.out; have := He.out; omega)
                      subst hz; rw [show mrg Pg.w [] B2 = B2 from Rq.mrg_nil_left _ _]; simpa using h3
end
end Go.Proofs.Ythfkjejjndgajaa
