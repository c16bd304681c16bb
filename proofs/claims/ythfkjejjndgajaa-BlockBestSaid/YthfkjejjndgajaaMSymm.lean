/- MSymm: Symm1, Symm2. -/
import Derived.Test.YthfkjejjndgajaaMSort
/- Two sorted stretches side by side are put together (slices.symMergeCmpFunc): where the first or the second is one alone. -/
namespace Go.Proofs.Ythfkjejjndgajaa
open Go.RowKit Go.Proofs.YthfkjejjndgajaaW.PrintWords Go.Sort Go.Lib Go.Shelf
open Go.Proofs (SWK RowK)
open Rq (mrg isort Up)

theorem arr_at {α : Type} [Inhabited α] {l : List α} {i : Nat} {z : α} (h : l[i]? = some z) : l.toArray[i]! = z := by
  rw [getElem!_def]
  have e : l.toArray[i]? = some z := by rw [List.getElem?_toArray]; exact h
  rw [e]

section
variable {w0 W wr : World} {blk off cap : Nat} {d0 dk : Array Pg}
/-- What the walk wants where two packs of the row are held against each other. -/
theorem cmp_at (hsw : SWP w0 blk off dk wr) (HR : RowP w0 blk off d0) (hdl : dk.size = d0.size) (i j : Nat) (hi : i < d0.size) (hj : j < d0.size) (x y : Pg) (hx : dk[i]! = x) (hy : dk[j]! = y)
    (hwx : x.w ≤ 1000000000000) (hwy : y.w ≤ 1000000000000) :
    (∀ n os, (grow (wr.drewN n) os).cell? ⟨blk, off + i * 2, none⟩ = some (.int .i64 (x.w : Int))) ∧ (∀ n os, (grow (wr.drewN n) os).cell? ⟨blk, off + i * 2 + 1, none⟩ = some (.slice x.A x.n x.c)) ∧
    (∀ n os, (grow (wr.drewN n) os).cell? ⟨blk, off + j * 2, none⟩ = some (.int .i64 (y.w : Int))) ∧ (∀ n os, (grow (wr.drewN n) os).cell? ⟨blk, off + j * 2 + 1, none⟩ = some (.slice y.A y.n y.c)) ∧
    (∀ n os, Calls Try.prog 90 #[.agg #[.int .i64 (x.w : Int), .slice x.A x.n x.c], .agg #[.int .i64 (y.w : Int), .slice y.A y.n y.c]] (grow (wr.drewN n) os) fun e w' => e = .returned (.int .i64 ((x.w : Int) - y.w)) ∧ ∃ q os', w' = grow ((grow (wr.drewN n) os).drewN q) os') := by
  subst hx hy
  exact ⟨fun n os => (pk_at (hsw.grown n os) HR hdl i (by omega)).1, fun n os => (pk_at (hsw.grown n os) HR hdl i (by omega)).2.1,
    fun n os => (pk_at (hsw.grown n os) HR hdl j (by omega)).1, fun n os => (pk_at (hsw.grown n os) HR hdl j (by omega)).2.1,
    fun n os => (cmp_calls _ _ hwx hwy (grow (wr.drewN n) os)).mono fun e w' ⟨he, os', hw⟩ => ⟨he, 0, os', hw⟩⟩

theorem mrg_one_left {α : Type} (k : α → Nat) (x : α) (B : List α) (p : Nat) (h1 : ∀ y ∈ B.take p, k y < k x) (h2 : ∀ y ∈ B.drop p, k x ≤ k y) : mrg k [x] B = B.take p ++ x :: B.drop p := by
  have e1 := Rq.mrg_cut k [] [x] (B.take p) (B.drop p) (by simpa using h1) (by simp)
  have e2 := Rq.mrg_cut k [x] [] [] (B.drop p) (by simp) (by simpa using h2)
  rw [List.take_append_drop] at e1
  simp only [List.nil_append, List.append_nil, Rq.mrg_nil_left, Rq.mrg_nil_right] at e1 e2
  rw [e1, e2]; rfl
theorem mrg_one_right {α : Type} (k : α → Nat) (y : α) (A : List α) (p : Nat) (h1 : ∀ x ∈ A.take p, k x ≤ k y) (h2 : ∀ x ∈ A.drop p, k y < k x) : mrg k A [y] = A.take p ++ y :: A.drop p := by
  have e1 := Rq.mrg_cut k (A.take p) (A.drop p) [y] [] (by simpa using h2) (by simp)
  have e2 := Rq.mrg_cut k (A.take p) [] [] [y] (by simp) (by simpa using h1)
  rw [List.take_append_drop] at e1
  simp only [List.nil_append, List.append_nil, Rq.mrg_nil_left, Rq.mrg_nil_right] at e1 e2
  rw [e1, e2]; simp
theorem up_take {α : Type} {k : α → Nat} {B : List α} (hB : Up k B) (t : Nat) (z : α) (hz : B[t]? = some z) : (∀ y ∈ B.take (t + 1), k y ≤ k z) ∧ (∀ y ∈ B.drop t, k z ≤ k y) := by
  have ht : t < B.length := (List.getElem?_eq_some_iff.1 hz).1
  have hzz : B[t] = z := (List.getElem?_eq_some_iff.1 hz).2
  unfold Up at hB
  rw [List.pairwise_iff_getElem] at hB
  constructor
  · intro y hy
    obtain ⟨i, hi, rfl⟩ := List.getElem_of_mem hy
    rw [List.length_take] at hi
    rw [List.getElem_take, ← hzz]
    rcases Nat.lt_or_ge i t with h | h
    · exact hB i t (by omega) ht h
    · have : i = t := by omega
      subst this; exact Nat.le_refl _
  · intro y hy
    obtain ⟨i, hi, rfl⟩ := List.getElem_of_mem hy
    rw [List.length_drop] at hi
    rw [List.getElem_drop, ← hzz]
    rcases Nat.eq_zero_or_pos i with h | h
    · subst h; exact Nat.le_refl _
    · exact hB t (t + i) ht (by omega) (by omega)

set_option maxHeartbeats 2000000 in
set_option maxRecDepth 100000 in
theorem symm_left (R : RowP w0 blk off d0) (pre : List Pg) (x : Pg) (B post : List Pg) (hs : (pre ++ x :: B ++ post).length = d0.size) (hbig : d0.size ≤ 1000000) (hB : Up Pg.w B) (hx : x.w ≤ 1000000000000) (hl : Light B)
    (h : SWP w0 blk off (pre ++ x :: B ++ post).toArray W) (az mz bz : Int) (ha : az = (pre.length : Nat)) (hm : mz = (pre.length + 1 : Nat)) (hb : bz = (pre.length + 1 + B.length : Nat)) :
    Calls Try.prog 121 #[.slice (some ⟨blk, off, none⟩) d0.size cap, .int .i64 az, .int .i64 mz, .int .i64 bz, cmpF] W fun e w' =>
      e = .returned (.tuple #[]) ∧ SWP w0 blk off (pre ++ mrg Pg.w [x] B ++ post).toArray w' := by
  have HR := Aside0.mk R
  have HS := Aside0.mk h
  have hsz : pre.length + 1 + B.length + post.length = d0.size := by
    have := hs; simp only [List.length_append, List.length_cons] at this; omega
  obtain ⟨a, hal⟩ : ∃ a, a = pre.length := ⟨_, rfl⟩
  obtain ⟨m, hml⟩ : ∃ m, m = pre.length + 1 := ⟨_, rfl⟩
  obtain ⟨b, hbl⟩ : ∃ b, b = pre.length + 1 + B.length := ⟨_, rfl⟩
  rw [← hbl] at hb
  rw [← hml] at hm
  rw [← hal] at ha
  have HA := Aside0.mk (And.intro hal (And.intro hml hbl))
  have HSl := Aside0.mk (And.intro hs hsz)
  have e1 : (m : Int) - a = 1 := by omega
  have ham : a < m := by omega
  have hmb : m ≤ b := by omega
  have hbd : b ≤ d0.size := by omega
  subst ha hm hb
  have HB := Aside0.mk (And.intro hB (And.intro hx hl))
  have mixed : Try.prog.follows .mixedOrders = true := by kernel_rfl
  clear R h hs hsz hal hml hbl hB hx hl
  go_enter Try.func121, Try.ntmps121
  go_wp2_with fail
  go_loopg [10, 11] (b - m) (fun g1 vi vj wr => ∃ (i j : Nat), vi = .int .i64 i ∧ vj = .int .i64 j ∧ m ≤ i ∧ i ≤ j ∧ j ≤ b ∧ j - i ≤ g1 ∧ Aside0 ((∀ y ∈ B.take (i - m), y.w < x.w) ∧ (∀ y ∈ B.drop (j - m), x.w ≤ y.w) ∧ SWP w0 blk off (pre ++ x :: B ++ post).toArray wr))
  case atStart => exact ⟨m, b, rfl, rfl, Nat.le_refl _, hmb, Nat.le_refl _, Nat.le_refl _, ⟨by simp, by have := HA.out; rw [List.drop_of_length_le (by omega)]; simp, HS.out⟩⟩
  case round =>
    obtain ⟨i, j, rfl, rfl, hmi, hij, hjb, hg, HI⟩ := hrel
    by_cases hlt : i < j
    · obtain ⟨hh, hhd⟩ : ∃ hh, hh = (i + j) / 2 := ⟨_, rfl⟩
      have q1 : i ≤ hh := by omega
      have q2 : hh < j := by omega
      obtain ⟨z, hz⟩ : ∃ z, B[hh - m]? = some z := ⟨_, List.getElem?_eq_getElem (by have := HA.out; omega)⟩
      have c1 : ((i : Int) + j) / 2 = (hh : Int) := by omega
      have c2 : IntKind.u64.wrap ((i : Int) + j) = (i : Int) + j := IntWalk.u64_in _ (by omega)
      have c3 : (Op.shift .shr .u64 ((i : Int) + j) .u64 1 : Sem Value) = pure (.int .u64 (hh : Int)) := by
        rw [shift_shr_any _ _ _ _ (by decide)]; simp [IntKind.bits, c1]
      have HZ := Aside0.mk (And.intro hhd hz)
      have hsw := HI.out.2.2
      have hdl : (pre ++ x :: B ++ post).toArray.size = d0.size := by simpa using HSl.out.1
      have hx1 : (pre ++ x :: B ++ post).toArray[a]! = x := arr_at (by rw [HA.out.1]; simp)
      have hz1 : (pre ++ x :: B ++ post).toArray[hh]! = z := arr_at (by
        have h1 := HA.out
        rw [List.append_assoc, List.getElem?_append_right (by omega), show hh - pre.length = (hh - m) + 1 by omega, List.cons_append, List.getElem?_cons_succ, List.getElem?_append_left (by omega)]
        exact hz)
      have hzl : z.w ≤ 1000000000000 := HB.out.2.2 z (List.mem_of_getElem? hz)
      obtain ⟨z0, z1, y0, y1, hcg⟩ := cmp_at hsw HR.out hdl hh a (by omega) (by omega) z x hz1 hx1 hzl HB.out.2.1
      have HC := Aside0.mk hcg
      have HW2 := Aside0.mk hsw
      have p1 : (hh : Int) < d0.size := by omega
      have p2 : (a : Int) < d0.size := by omega
      clear hhd hz hsw hdl hx1 hz1 hzl hcg
      by_cases hlv : z.w < x.w
      · have j7 : decide ((z.w : Int) - x.w < 0) = true := by simp; omega
        have j8 : (z.w : Int) - x.w < 0 := by omega
        go_wp2_with fail
        go_quiet_grown (first | (go_at_call 90; refine Calls.grown_of (HC.out _ _)))
        go_wp2_with fail
        go_roundg (j - (hh + 1))
        case measure => omega
        case rel =>
          refine ⟨hh + 1, j, by go_num, rfl, by omega, by omega, hjb, Nat.le_refl _, ⟨?_, HI.out.2.1, HW2.out.grown nq osq⟩⟩
          intro y hy
          rw [show hh + 1 - m = (hh - m) + 1 by omega] at hy
          have := (up_take HB.out.1 _ _ HZ.out.2).1 y hy
          omega
      · have j7 : decide ((z.w : Int) - x.w < 0) = false := by simp; omega
        have j8 : ¬ (z.w : Int) - x.w < 0 := by omega
        go_wp2_with fail
        go_quiet_grown (first | (go_at_call 90; refine Calls.grown_of (HC.out _ _)))
        go_wp2_with fail
        go_roundg (hh - i)
        case measure => omega
        case rel =>
          refine ⟨i, hh, rfl, rfl, hmi, by omega, by omega, Nat.le_refl _, ⟨HI.out.1, ?_, HW2.out.grown nq osq⟩⟩
          intro y hy
          have := (up_take HB.out.1 _ _ HZ.out.2).2 y hy
          omega
    · obtain rfl : i = j := by omega
      obtain ⟨p, hp⟩ : ∃ p, i = m + p := ⟨i - m, by omega⟩
      have hmrg : mrg Pg.w [x] B = B.take p ++ x :: B.drop p := mrg_one_left Pg.w x B p (by have := HI.out.1; rw [hp, Nat.add_sub_cancel_left] at this; exact this) (by have := HI.out.2.1; rw [hp, Nat.add_sub_cancel_left] at this; exact this)
      have HMR := Aside0.mk hmrg
      have HSW := Aside0.mk HI.out.2.2
      have hpB : p ≤ B.length := by have := HA.out; omega
      have HPB := Aside0.mk hpB
      have HP := Aside0.mk hp
      have i1 : IntKind.i64.wrap ((i : Int) - 1) = (i : Int) - 1 := IntWalk.i64_in _ (by omega)
      clear hmrg hp hpB HI hlt
      go_wp2_with fail
      go_loopg [13] (i - a) (fun g2 vk wr => ∃ k : Nat, vk = .int .i64 k ∧ a ≤ k ∧ k < i ∧ i - k ≤ g2 ∧ Aside0 (SWP w0 blk off (pre ++ (B.take (k - a) ++ x :: B.drop (k - a)) ++ post).toArray wr))
      case atStart => exact ⟨a, rfl, Nat.le_refl _, by omega, Nat.le_refl _, ⟨by simpa using HSW.out⟩⟩
      case round =>
        obtain ⟨k, rfl, hak, hki, hg2, HK⟩ := hrel
        by_cases hk1 : k + 1 < i
        · have hk2 : (k : Int) < (i : Int) - 1 := by omega
          have hkB : k - a < B.length := by have := HPB.out; have := HA.out; have := HP.out; omega
          obtain ⟨y, hy⟩ : ∃ y, B.drop (k - a) = y :: B.drop (k - a + 1) := ⟨B[k - a]'hkB, List.drop_eq_getElem_cons hkB⟩
          have hyt : B.take (k + 1 - a) = B.take (k - a) ++ [y] := by
            rw [show k + 1 - a = (k - a) + 1 by omega, List.take_add_one]
            congr 1
            have h1 := congrArg List.head? hy
            rw [List.head?_drop] at h1
            rw [h1]; rfl
          have hyd : B.drop (k + 1 - a) = B.drop (k - a + 1) := by rw [show k + 1 - a = k - a + 1 by omega]
          have hsw := HK.out
          rw [hy] at hsw
          obtain ⟨dk, hdk⟩ : ∃ dk, dk = (pre ++ (B.take (k - a) ++ x :: y :: B.drop (k - a + 1)) ++ post).toArray := ⟨_, rfl⟩
          rw [← hdk] at hsw
          have hdl : dk.size = d0.size := by
            have h1 := HSl.out.1
            have h2 := congrArg List.length hy
            rw [hdk]
            simp only [List.size_toArray, List.length_append, List.length_cons, List.length_drop, List.length_take] at h1 h2 ⊢
            omega
          have hkd : k + 1 < d0.size := by omega
          have hl1 : pre.length + (B.take (k - a)).length = k := by rw [List.length_take]; have := HA.out; omega
          have hfx := pk_at hsw HR.out hdl k (by omega)
          have hfy := pk_at hsw HR.out hdl (k + 1) (by omega)
          have e0 : dk[k]! = x := by rw [hdk]; exact arr_at (by rw [List.append_assoc, List.getElem?_append_right (by omega), List.append_assoc, List.getElem?_append_right (by omega), show k - pre.length - (List.take (k - a) B).length = 0 by omega]; rfl)
          have e1 : dk[k + 1]! = y := by rw [hdk]; exact arr_at (by rw [List.append_assoc, List.getElem?_append_right (by omega), List.append_assoc, List.getElem?_append_right (by omega), show k + 1 - pre.length - (List.take (k - a) B).length = 1 by omega]; rfl)
          have hfin := SWK.swapped hsw HR.out k (k + 1) (by omega) (by omega)
          rw [e0, e1] at hfin
          have hswp : swp dk k (k + 1) = (pre ++ (B.take (k + 1 - a) ++ x :: B.drop (k + 1 - a)) ++ post).toArray := by
            have h1 := list_swap (pre ++ B.take (k - a)) [] (B.drop (k - a + 1) ++ post) x y
            rw [List.length_append, hl1] at h1
            simp only [List.length_nil, Nat.add_zero, List.append_assoc, List.cons_append, List.nil_append] at h1
            rw [hdk, hyt, hyd]
            simp only [List.append_assoc, List.cons_append, List.nil_append]
            exact h1
          rw [hswp] at hfin
          rw [e0] at hfx
          rw [e1] at hfy
          obtain ⟨a0, a1, a2, a3⟩ := hfx
          obtain ⟨b0, b1, b2, b3⟩ := hfy
          replace a1 : wr.cell? ⟨blk, off + k * 2 + 1, none⟩ = some (.slice x.A x.n x.c) := a1
          replace b1 : wr.cell? ⟨blk, off + (k + 1) * 2 + 1, none⟩ = some (.slice y.A y.n y.c) := b1
          have HF := Aside0.mk hfin
          have n1 : ¬ off + (k + 1) * 2 = off + k * 2 := by omega
          have n2 : ¬ off + (k + 1) * 2 = off + k * 2 + 1 := by omega
          have n3 : ¬ off + (k + 1) * 2 + 1 = off + k * 2 := by omega
          have n4 : ¬ off + (k + 1) * 2 + 1 = off + k * 2 + 1 := by omega
          have p1 : (k : Int) < d0.size := by omega
          have p2 : (k : Int) + 1 < d0.size := by omega
          have p3 : ((k : Int) + 1).toNat = k + 1 := by omega
          have p4 : (0 : Int) ≤ (k : Int) + 1 := by omega
          have p5 : IntKind.i64.wrap ((k : Int) + 1) = (k : Int) + 1 := IntWalk.i64_in _ (by omega)
          clear hy hyt hyd hsw hdk hdl e0 e1 hfin hswp hl1
          go_wp2_with fail
          go_big_region_o
          all_goals go_wp2_with fail
          go_roundg (i - (k + 1))
          case measure => omega
          case rel => exact ⟨k + 1, by go_num, by omega, hk1, Nat.le_refl _, ⟨HF.out⟩⟩
        · have hk2 : ¬ (k : Int) < (i : Int) - 1 := by omega
          go_wp2_with fail
          refine bodyPost_ret (results_none rfl _ _ _) rfl ⟨rfl, ?_⟩
          have h1 := HK.out
          have hka : k - a = p := by have := HP.out; have := HA.out; omega
          rw [hka, ← HMR.out, List.append_assoc] at h1
          exact h1
end
end Go.Proofs.Ythfkjejjndgajaa

/- Two sorted stretches side by side are put together (slices.symMergeCmpFunc): where the second is one alone. -/
namespace Go.Proofs.Ythfkjejjndgajaa
open Go.RowKit Go.Proofs.YthfkjejjndgajaaW.PrintWords Go.Sort Go.Lib Go.Shelf
open Go.Proofs (SWK RowK)
open Rq (mrg isort Up)

section
variable {w0 W wr : World} {blk off cap : Nat} {d0 dk : Array Pg}
set_option maxHeartbeats 2000000 in
set_option maxRecDepth 100000 in
theorem symm_right (R : RowP w0 blk off d0) (pre A : List Pg) (y : Pg) (post : List Pg) (hA1 : A.length ≠ 1) (hs : (pre ++ A ++ y :: post).length = d0.size) (hbig : d0.size ≤ 1000000) (hA : Up Pg.w A) (hy : y.w ≤ 1000000000000) (hl : Light A)
    (h : SWP w0 blk off (pre ++ A ++ y :: post).toArray W) (az mz bz : Int) (ha : az = (pre.length : Nat)) (hm : mz = (pre.length + A.length : Nat)) (hb : bz = (pre.length + A.length + 1 : Nat)) :
    Calls Try.prog 121 #[.slice (some ⟨blk, off, none⟩) d0.size cap, .int .i64 az, .int .i64 mz, .int .i64 bz, cmpF] W fun e w' =>
      e = .returned (.tuple #[]) ∧ SWP w0 blk off (pre ++ mrg Pg.w A [y] ++ post).toArray w' := by
  have HR := Aside0.mk R
  have HS := Aside0.mk h
  have hsz : pre.length + A.length + 1 + post.length = d0.size := by
    have := hs; simp only [List.length_append, List.length_cons] at this; omega
  obtain ⟨a, hal⟩ : ∃ a, a = pre.length := ⟨_, rfl⟩
  obtain ⟨m, hml⟩ : ∃ m, m = pre.length + A.length := ⟨_, rfl⟩
  obtain ⟨b, hbl⟩ : ∃ b, b = pre.length + A.length + 1 := ⟨_, rfl⟩
  rw [← hbl] at hb
  rw [← hml] at hm
  rw [← hal] at ha
  have HA := Aside0.mk (And.intro hal (And.intro hml hbl))
  have HSl := Aside0.mk (And.intro hs hsz)
  have e0 : (((m : Int) - a) == 1) = false := by rw [beq_eq_false_iff_ne]; omega
  have e1 : (b : Int) - m = 1 := by omega
  have e2 : IntKind.i64.wrap ((m : Int) - a) = (m : Int) - a := IntWalk.i64_in _ (by omega)
  have ham : a ≤ m := by omega
  have hmb : m < b := by omega
  have hbd : b ≤ d0.size := by omega
  subst ha hm hb
  have HB := Aside0.mk (And.intro hA (And.intro hy hl))
  have mixed : Try.prog.follows .mixedOrders = true := by kernel_rfl
  clear R h hs hsz hal hml hbl hA hy hl hA1
  go_enter Try.func121, Try.ntmps121
  go_wp2_with fail
  go_loopg [14, 15] (m - a) (fun g1 vi vj wr => ∃ (i j : Nat), vi = .int .i64 i ∧ vj = .int .i64 j ∧ a ≤ i ∧ i ≤ j ∧ j ≤ m ∧ j - i ≤ g1 ∧ Aside0 ((∀ x ∈ A.take (i - a), x.w ≤ y.w) ∧ (∀ x ∈ A.drop (j - a), y.w < x.w) ∧ SWP w0 blk off (pre ++ A ++ y :: post).toArray wr))
  case atStart => exact ⟨a, m, rfl, rfl, Nat.le_refl _, ham, Nat.le_refl _, Nat.le_refl _, ⟨by simp, by have := HA.out; rw [List.drop_of_length_le (by omega)]; simp, HS.out⟩⟩
  case round =>
    obtain ⟨i, j, rfl, rfl, hmi, hij, hjb, hg, HI⟩ := hrel
    by_cases hlt : i < j
    · obtain ⟨hh, hhd⟩ : ∃ hh, hh = (i + j) / 2 := ⟨_, rfl⟩
      have q1 : i ≤ hh := by omega
      have q2 : hh < j := by omega
      obtain ⟨z, hz⟩ : ∃ z, A[hh - a]? = some z := ⟨_, List.getElem?_eq_getElem (by have := HA.out; omega)⟩
      have c1 : ((i : Int) + j) / 2 = (hh : Int) := by omega
      have c2 : IntKind.u64.wrap ((i : Int) + j) = (i : Int) + j := IntWalk.u64_in _ (by omega)
      have c3 : (Op.shift .shr .u64 ((i : Int) + j) .u64 1 : Sem Value) = pure (.int .u64 (hh : Int)) := by
        rw [shift_shr_any _ _ _ _ (by decide)]; simp [IntKind.bits, c1]
      have HZ := Aside0.mk (And.intro hhd hz)
      have hsw := HI.out.2.2
      have hdl : (pre ++ A ++ y :: post).toArray.size = d0.size := by simpa using HSl.out.1
      have hy1 : (pre ++ A ++ y :: post).toArray[m]! = y := arr_at (by rw [HA.out.2.1, List.getElem?_append_right (by simp)]; simp)
      have hz1 : (pre ++ A ++ y :: post).toArray[hh]! = z := arr_at (by
        have h1 := HA.out
        rw [List.append_assoc, List.getElem?_append_right (by omega), List.getElem?_append_left (by omega), ← h1.1]
        exact hz)
      have hzl : z.w ≤ 1000000000000 := HB.out.2.2 z (List.mem_of_getElem? hz)
      obtain ⟨y0, y1, z0, z1, hcg⟩ := cmp_at hsw HR.out hdl m hh (by omega) (by omega) y z hy1 hz1 HB.out.2.1 hzl
      have HC := Aside0.mk hcg
      have HW2 := Aside0.mk hsw
      have p1 : (hh : Int) < d0.size := by omega
      have p2 : (m : Int) < d0.size := by omega
      clear hhd hz hsw hdl hy1 hz1 hzl hcg
      by_cases hlv : y.w < z.w
      · have j7 : decide ((y.w : Int) - z.w < 0) = true := by simp; omega
        have j8 : (y.w : Int) - z.w < 0 := by omega
        go_wp2_with fail
        go_quiet_grown (first | (go_at_call 90; refine Calls.grown_of (HC.out _ _)))
        go_wp2_with fail
        go_roundg (hh - i)
        case measure => omega
        case rel =>
          refine ⟨i, hh, rfl, rfl, hmi, by omega, by omega, Nat.le_refl _, ⟨HI.out.1, ?_, HW2.out.grown nq osq⟩⟩
          intro x hx
          have := (up_take HB.out.1 _ _ HZ.out.2).2 x hx
          omega
      · have j7 : decide ((y.w : Int) - z.w < 0) = false := by simp; omega
        have j8 : ¬ (y.w : Int) - z.w < 0 := by omega
        go_wp2_with fail
        go_quiet_grown (first | (go_at_call 90; refine Calls.grown_of (HC.out _ _)))
        go_wp2_with fail
        go_roundg (j - (hh + 1))
        case measure => omega
        case rel =>
          refine ⟨hh + 1, j, by go_num, rfl, by omega, by omega, hjb, Nat.le_refl _, ⟨?_, HI.out.2.1, HW2.out.grown nq osq⟩⟩
          intro x hx
          rw [show hh + 1 - a = (hh - a) + 1 by omega] at hx
          have := (up_take HB.out.1 _ _ HZ.out.2).1 x hx
          omega
    · obtain rfl : i = j := by omega
      obtain ⟨p, hp⟩ : ∃ p, i = a + p := ⟨i - a, by omega⟩
      have hmrg : mrg Pg.w A [y] = A.take p ++ y :: A.drop p := mrg_one_right Pg.w y A p (by have := HI.out.1; rw [hp, Nat.add_sub_cancel_left] at this; exact this) (by have := HI.out.2.1; rw [hp, Nat.add_sub_cancel_left] at this; exact this)
      have HMR := Aside0.mk hmrg
      have HSW := Aside0.mk HI.out.2.2
      have hpB : p ≤ A.length := by have := HA.out; omega
      have HPB := Aside0.mk hpB
      have HP := Aside0.mk hp
      clear hmrg hp hpB HI hlt
      go_wp2_with fail
      go_loopg [17] (m - i) (fun g2 vk wr => ∃ k : Nat, vk = .int .i64 k ∧ i ≤ k ∧ k ≤ m ∧ k - i ≤ g2 ∧ Aside0 (SWP w0 blk off (pre ++ (A.take (k - a) ++ y :: A.drop (k - a)) ++ post).toArray wr))
      case atStart =>
        refine ⟨m, rfl, by omega, Nat.le_refl _, Nat.le_refl _, ⟨?_⟩⟩
        have h1 := HSW.out
        rw [List.take_of_length_le (by have := HA.out; omega), List.drop_of_length_le (by have := HA.out; omega)]
        simpa using h1
      case round =>
        obtain ⟨k, rfl, hik, hkm, hg2, HK⟩ := hrel
        by_cases hk1 : i < k
        · obtain ⟨q, rfl⟩ : ∃ q, k = q + 1 := ⟨k - 1, by omega⟩
          have hk2 : (i : Int) < (q : Int) + 1 := by omega
          have hkB : q - a < A.length := by have := HPB.out; have := HA.out; have := HP.out; omega
          have hqa : a ≤ q := by omega
          obtain ⟨x, hx⟩ : ∃ x, A.drop (q - a) = x :: A.drop (q - a + 1) := ⟨A[q - a]'hkB, List.drop_eq_getElem_cons hkB⟩
          have hyt : A.take (q + 1 - a) = A.take (q - a) ++ [x] := by
            rw [show q + 1 - a = (q - a) + 1 by omega, List.take_add_one]
            congr 1
            have h1 := congrArg List.head? hx
            rw [List.head?_drop] at h1
            rw [h1]; rfl
          have hyd : A.drop (q + 1 - a) = A.drop (q - a + 1) := by rw [show q + 1 - a = q - a + 1 by omega]
          have hsw := HK.out
          rw [hyt, hyd, List.append_assoc (A.take (q - a)), List.cons_append, List.nil_append] at hsw
          obtain ⟨dk, hdk⟩ : ∃ dk, dk = (pre ++ (A.take (q - a) ++ x :: y :: A.drop (q - a + 1)) ++ post).toArray := ⟨_, rfl⟩
          rw [← hdk] at hsw
          have hdl : dk.size = d0.size := by
            have h1 := HSl.out.1
            have h2 := congrArg List.length hx
            rw [hdk]
            simp only [List.size_toArray, List.length_append, List.length_cons, List.length_drop, List.length_take] at h1 h2 ⊢
            omega
          have hkd : q + 1 < d0.size := by omega
          have hl1 : pre.length + (A.take (q - a)).length = q := by rw [List.length_take]; have := HA.out; omega
          have hfx := pk_at hsw HR.out hdl q (by omega)
          have hfy := pk_at hsw HR.out hdl (q + 1) (by omega)
          have e0' : dk[q]! = x := by rw [hdk]; exact arr_at (by rw [List.append_assoc, List.getElem?_append_right (by omega), List.append_assoc, List.getElem?_append_right (by omega), show q - pre.length - (List.take (q - a) A).length = 0 by omega]; rfl)
          have e1' : dk[q + 1]! = y := by rw [hdk]; exact arr_at (by rw [List.append_assoc, List.getElem?_append_right (by omega), List.append_assoc, List.getElem?_append_right (by omega), show q + 1 - pre.length - (List.take (q - a) A).length = 1 by omega]; rfl)
          have hfin := SWK.swapped hsw HR.out (q + 1) q (by omega) (by omega)
          rw [e0', e1'] at hfin
          have hswp : swp dk (q + 1) q = (pre ++ (A.take (q - a) ++ y :: A.drop (q - a)) ++ post).toArray := by
            have h1 := swp_down (pre ++ A.take (q - a)) (A.drop (q - a + 1) ++ post) x y
            rw [List.length_append, hl1] at h1
            simp only [List.append_assoc] at h1
            rw [hdk, hx]
            simp only [List.append_assoc, List.cons_append]
            exact h1
          rw [hswp] at hfin
          rw [e0'] at hfx
          rw [e1'] at hfy
          obtain ⟨a0, a1, a2, a3⟩ := hfx
          obtain ⟨b0, b1, b2, b3⟩ := hfy
          replace a1 : wr.cell? ⟨blk, off + q * 2 + 1, none⟩ = some (.slice x.A x.n x.c) := a1
          replace b1 : wr.cell? ⟨blk, off + (q + 1) * 2 + 1, none⟩ = some (.slice y.A y.n y.c) := b1
          have HF := Aside0.mk hfin
          have n1 : ¬ off + q * 2 = off + (q + 1) * 2 := by omega
          have n2 : ¬ off + q * 2 = off + (q + 1) * 2 + 1 := by omega
          have n3 : ¬ off + q * 2 + 1 = off + (q + 1) * 2 := by omega
          have n4 : ¬ off + q * 2 + 1 = off + (q + 1) * 2 + 1 := by omega
          have p1 : (q : Int) < d0.size := by omega
          have p2 : (q : Int) + 1 < d0.size := by omega
          have p3 : ((q : Int) + 1).toNat = q + 1 := by omega
          have p4 : (0 : Int) ≤ (q : Int) + 1 := by omega
          have p5 : IntKind.i64.wrap (q : Int) = (q : Int) := IntWalk.i64_in _ (by omega)
          clear hx hyt hyd hsw hdk hdl e0' e1' hfin hswp hl1
          go_wp2_with fail
          go_big_region_o
          all_goals go_wp2_with fail
          go_roundg (q - i)
          case measure => omega
          case rel => exact ⟨q, by go_num, by omega, by omega, Nat.le_refl _, ⟨HF.out⟩⟩
        · have hk2 : ¬ (i : Int) < (k : Int) := by omega
          go_wp2_with fail
          refine bodyPost_ret (results_none rfl _ _ _) rfl ⟨rfl, ?_⟩
          have h1 := HK.out
          have hka : k - a = p := by have := HP.out; have := HA.out; omega
          rw [hka, ← HMR.out, List.append_assoc] at h1
          exact h1
end
end Go.Proofs.Ythfkjejjndgajaa
