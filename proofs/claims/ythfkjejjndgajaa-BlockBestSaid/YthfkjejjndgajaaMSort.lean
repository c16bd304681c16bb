/- MSort: SwapR, Insort, Rotate. -/
import Derived.Test.YthfkjejjndgajaaMBase
import Derived.Shelf.SlSortCmp.KitK
import Derived.WalkSpells
import Derived.Test.YthfkjejjndgajaaPlainA
/- Two stretches of a row of packs change places (slices.swapRangeCmpFunc). -/
namespace Go.Proofs.Ythfkjejjndgajaa
open Go.RowKit Go.Proofs.YthfkjejjndgajaaW.PrintWords Go.Sort Go.Lib Go.Shelf
open Go.Proofs (SWK RowK)

/-- A pack as it lies in a row: its weight, and where how often each is in it stands. -/
structure Pg where
  w : Nat
  A : Option Addr
  n : Nat
  c : Nat
  many : List Nat
  deriving Inhabited
def encP (p : Pg) : List Value := [.int .i64 (p.w : Int), .slice p.A p.n p.c]
theorem encP_len (p : Pg) : (encP p).length = 2 := rfl
theorem encP_one (p : Pg) : ∀ v ∈ encP p, v.oneCell' = true := by
  intro v hv; simp only [encP, List.mem_cons, List.not_mem_nil, or_false] at hv; rcases hv with rfl | rfl <;> rfl
abbrev RowP (w0 : World) (blk off : Nat) (d0 : Array Pg) : Prop := RowK encP 2 w0 blk off d0
abbrev SWP (w0 : World) (blk off : Nat) (d : Array Pg) (W : World) : Prop := SWK encP 2 w0 blk off d W

theorem list_swap {α : Type} [Inhabited α] (p m q : List α) (x y : α) :
    swp (p ++ x :: m ++ y :: q).toArray p.length (p.length + 1 + m.length) = (p ++ y :: m ++ x :: q).toArray := by
  have h1 : (p ++ x :: m ++ y :: q).toArray[p.length]! = x := by simp
  have h2 : (p ++ x :: m ++ y :: q).toArray[p.length + 1 + m.length]! = y := by
    rw [getElem!_def]
    have e : (p ++ x :: m ++ y :: q).toArray[p.length + 1 + m.length]? = some y := by
      rw [List.getElem?_toArray, List.getElem?_append_right (by simp; omega)]
      simp [show p.length + 1 + m.length - (p.length + (m.length + 1)) = 0 by omega]
    rw [e]
  unfold swp
  rw [h1, h2, List.setIfInBounds_toArray, List.setIfInBounds_toArray]
  congr 1
  rw [List.append_assoc, List.set_append_right _ _ (Nat.le_refl _), Nat.sub_self, List.cons_append, List.set_cons_zero,
    List.set_append_right _ _ (by omega), show p.length + 1 + m.length - p.length = m.length + 1 by omega, List.set_cons_succ,
    List.set_append_right _ _ (Nat.le_refl _), Nat.sub_self, List.set_cons_zero]
  simp

/-- So far exchanged. -/
def swapTo {α : Type} (pre X M Y post : List α) (i : Nat) : List α := pre ++ (Y.take i ++ X.drop i) ++ M ++ (X.take i ++ Y.drop i) ++ post
theorem swapTo_zero {α : Type} (pre X M Y post : List α) : swapTo pre X M Y post 0 = pre ++ X ++ M ++ Y ++ post := by simp [swapTo]
theorem swapTo_all {α : Type} (pre X M Y post : List α) (n : Nat) (hx : X.length = n) (hy : Y.length = n) : swapTo pre X M Y post n = pre ++ Y ++ M ++ X ++ post := by
  subst hx
  simp [swapTo, List.take_of_length_le (show Y.length ≤ X.length by omega), List.drop_of_length_le (show Y.length ≤ X.length by omega)]
theorem swapTo_len {α : Type} (pre X M Y post : List α) (i n : Nat) (hx : X.length = n) (hy : Y.length = n) (hi : i ≤ n) : (swapTo pre X M Y post i).length = (pre ++ X ++ M ++ Y ++ post).length := by
  simp [swapTo]; omega
theorem swapTo_step {α : Type} [Inhabited α] (pre X M Y post : List α) (i n : Nat) (hx : X.length = n) (hy : Y.length = n) (hi : i < n) :
    swp (swapTo pre X M Y post i).toArray (pre.length + i) (pre.length + n + M.length + i) = (swapTo pre X M Y post (i + 1)).toArray := by
  have e1 : X.drop i = X[i] :: X.drop (i + 1) := List.drop_eq_getElem_cons (by omega)
  have e2 : Y.drop i = Y[i] :: Y.drop (i + 1) := List.drop_eq_getElem_cons (by omega)
  have e3 : X.take (i + 1) = X.take i ++ [X[i]] := by rw [List.take_succ_eq_append_getElem (by omega)]
  have e4 : Y.take (i + 1) = Y.take i ++ [Y[i]] := by rw [List.take_succ_eq_append_getElem (by omega)]
  have := list_swap (pre ++ Y.take i) (X.drop (i + 1) ++ M ++ X.take i) (Y.drop (i + 1) ++ post) X[i] Y[i]
  have l1 : (pre ++ Y.take i).length = pre.length + i := by simp; omega
  have l2 : (X.drop (i + 1) ++ M ++ X.take i).length = n - (i + 1) + M.length + i := by simp; omega
  rw [l1, l2, show pre.length + i + 1 + (n - (i + 1) + M.length + i) = pre.length + n + M.length + i by omega] at this
  unfold swapTo
  rw [e1, e2, e3, e4]
  simp only [List.append_assoc, List.cons_append, List.nil_append] at this ⊢
  exact this

section
variable {w0 W : World} {blk off cap : Nat} {d0 : Array Pg}
def pkV (p : Pg) : Value := .slice p.A p.n p.c
theorem pk_at {d : Array Pg} (h : SWP w0 blk off d W) (R : RowP w0 blk off d0) (hs : d.size = d0.size) (i : Nat) (hi : i < d.size) :
    W.cell? ⟨blk, off + i * 2, none⟩ = some (.int .i64 ((d[i]!).w : Int)) ∧ W.cell? ⟨blk, off + i * 2 + 1, none⟩ = some (pkV d[i]!) ∧
    W.frozen? ⟨blk, off + i * 2, none⟩ = false ∧ W.frozen? ⟨blk, off + i * 2 + 1, none⟩ = false := by
  have hh := h.holds R.hblk R.hH hs
  have h0 := hh.cell hi (c := 0) (by omega)
  have h1 := hh.cell hi (c := 1) (by omega)
  exact ⟨h0.1, h1.1, h0.2, h1.2⟩
set_option maxHeartbeats 1000000 in
set_option maxRecDepth 100000 in
theorem swapR_calls (R : RowP w0 blk off d0) (pre X M Y post : List Pg) (n : Nat) (hx : X.length = n) (hy : Y.length = n)
    (hs : (pre ++ X ++ M ++ Y ++ post).length = d0.size) (hbig : d0.size ≤ 1000000) (h : SWP w0 blk off (pre ++ X ++ M ++ Y ++ post).toArray W)
    (az bz nz : Int) (ha : az = (pre.length : Nat)) (hb : bz = (pre.length + n + M.length : Nat)) (hn : nz = n) (cv : Value) :
    Calls Try.prog 138 #[.slice (some ⟨blk, off, none⟩) d0.size cap, .int .i64 az, .int .i64 bz, .int .i64 nz, cv] W fun e w' =>
      e = .returned (.tuple #[]) ∧ SWP w0 blk off (pre ++ Y ++ M ++ X ++ post).toArray w' := by
  have HR := Aside0.mk R
  have HS := Aside0.mk h
  have HT := Aside0.mk (swapTo_all pre X M Y post n hx hy)
  have HST := Aside0.mk (fun i hi => swapTo_step pre X M Y post i n hx hy hi)
  have HL := Aside0.mk (fun i hi => (swapTo_len pre X M Y post i n hx hy hi).trans hs)
  have HZ := Aside0.mk (swapTo_zero pre X M Y post)
  have hsz : pre.length + n + M.length + n ≤ d0.size := by
    have := hs; simp only [List.length_append] at this; omega
  obtain ⟨a, hal⟩ : ∃ a, a = pre.length := ⟨_, rfl⟩
  obtain ⟨b, hbl⟩ : ∃ b, b = pre.length + n + M.length := ⟨_, rfl⟩
  rw [← hbl] at hb hsz HST
  rw [← hal] at ha HST
  subst ha hb hn
  have hab : a + n ≤ b := by omega
  have mixed : Try.prog.follows .mixedOrders = true := by kernel_rfl
  clear R h hs hx hy hal hbl
  go_enter Try.func138, Try.ntmps138
  go_wp2_with fail
  go_loopw [10] (fun v wr => ∃ i : Nat, i ≤ n ∧ v = .int .i64 i ∧ SWP w0 blk off (swapTo pre X M Y post i).toArray wr) (fun v _ => n - (intOf v).toNat)
  case atStart => exact ⟨0, Nat.zero_le _, rfl, by rw [HZ.out]; exact HS.out⟩
  case round =>
    obtain ⟨i, hi, rfl, hsw⟩ := hrel
    by_cases hlt : i < n
    · have HW := Aside0.mk hsw
      have hdl : (swapTo pre X M Y post i).toArray.size = d0.size := by simpa using HL.out i hi
      obtain ⟨dk, hdk⟩ : ∃ dk, dk = (swapTo pre X M Y post i).toArray := ⟨_, rfl⟩
      rw [← hdk] at hdl
      obtain ⟨a0, a1, a2, a3⟩ := pk_at HW.out HR.out (hdk ▸ hdl) (a + i) (by rw [← hdk, hdl]; omega)
      obtain ⟨b0, b1, b2, b3⟩ := pk_at HW.out HR.out (hdk ▸ hdl) (b + i) (by rw [← hdk, hdl]; omega)
      rw [← hdk] at a0 a1 b0 b1
      have hfin := SWK.swapped HW.out HR.out (a + i) (b + i) (by rw [← hdk, hdl]; omega) (by rw [← hdk, hdl]; omega)
      rw [HST.out i hlt] at hfin
      rw [← hdk] at hfin
      have e1 : ((a : Int) + i).toNat = a + i := by omega
      have e2 : ((b : Int) + i).toNat = b + i := by omega
      have p1 : (a : Int) + i < d0.size := by omega
      have p2 : (b : Int) + i < d0.size := by omega
      have p3 : (0 : Int) ≤ (a : Int) + i := by omega
      have p4 : (0 : Int) ≤ (b : Int) + i := by omega
      have q1 : IntKind.i64.wrap ((a : Int) + i) = (a : Int) + i := IntWalk.i64_in _ (by omega)
      have q2 : IntKind.i64.wrap ((b : Int) + i) = (b : Int) + i := IntWalk.i64_in _ (by omega)
      have HF := Aside0.mk hfin
      obtain ⟨xa, hxa⟩ : ∃ x, x = dk[a + i]! := ⟨_, rfl⟩
      obtain ⟨xb, hxb⟩ : ∃ x, x = dk[b + i]! := ⟨_, rfl⟩
      rw [← hxa] at a0 a1
      rw [← hxb] at b0 b1
      have HX := Aside0.mk (And.intro hxa hxb)
      have n1 : ¬ off + (b + i) * 2 = off + (a + i) * 2 := by omega
      have n2 : ¬ off + (b + i) * 2 = off + (a + i) * 2 + 1 := by omega
      have n3 : ¬ off + (b + i) * 2 + 1 = off + (a + i) * 2 := by omega
      have n4 : ¬ off + (b + i) * 2 + 1 = off + (a + i) * 2 + 1 := by omega
      have k1 : pkV xa = .slice xa.A xa.n xa.c := rfl
      have k2 : pkV xb = .slice xb.A xb.n xb.c := rfl
      rw [k1] at a1
      rw [k2] at b1
      clear hsw hfin hdl hdk hxa hxb k1 k2
      go_wp2_with fail
      go_big_region_o
      all_goals go_wp2_with fail
      go_roundw
      case rel =>
        refine ⟨i + 1, by omega, by go_num, ?_⟩
        have h1 := HF.out
        rw [← HX.out.1, ← HX.out.2] at h1
        exact h1
      case measure => simp [intOf]; omega
    · go_wp2_with fail
      go_end0
      obtain rfl : i = n := by omega
      exact ⟨rfl, by rw [← HT.out]; exact hsw⟩
end
end Go.Proofs.Ythfkjejjndgajaa

/- Packs put in order by insertion (slices.insertionSortCmpFunc), and how two are held against each other. -/
namespace Go.Proofs.Ythfkjejjndgajaa
open Go.RowKit Go.Proofs.YthfkjejjndgajaaW.PrintWords Go.Sort Go.Lib Go.Shelf
open Go.Proofs (SWK RowK)
open Rq (mrg isort Up)

abbrev cmpF : Value := .func (.func 90) #[] #[]
/-- Weights that are no greater than Go's sum can bear. -/
def Light (l : List Pg) : Prop := ∀ p ∈ l, p.w ≤ 1000000000000

set_option maxHeartbeats 400000 in
theorem cmp_calls (x y : Pg) (hx : x.w ≤ 1000000000000) (hy : y.w ≤ 1000000000000) (W : World) :
    Calls Try.prog 90 #[.agg #[.int .i64 (x.w : Int), pkV x], .agg #[.int .i64 (y.w : Int), pkV y]] W fun e w' => e = .returned (.int .i64 ((x.w : Int) - y.w)) ∧ ∃ os, w' = grow W os := by
  obtain ⟨u, hu⟩ : ∃ u, u = x.w := ⟨_, rfl⟩
  obtain ⟨v, hv⟩ : ∃ v, v = y.w := ⟨_, rfl⟩
  rw [← hu] at hx ⊢
  rw [← hv] at hy ⊢
  clear hu hv
  unfold pkV
  go_enter Try.func90, Try.ntmps90
  go_wp2_with fail
  go_ret
  exact ⟨rfl, #[.cells #[.int .i64 (u : Int), .slice x.A x.n x.c] 146, .cells #[.int .i64 (v : Int), .slice y.A y.n y.c] 146], rfl⟩

theorem swp_down {α : Type} [Inhabited α] (p q : List α) (x y : α) : swp (p ++ x :: y :: q).toArray (p.length + 1) p.length = (p ++ y :: x :: q).toArray := by
  have h1 : (p ++ x :: y :: q).toArray[p.length]! = x := by simp
  have h2 : (p ++ x :: y :: q).toArray[p.length + 1]! = y := by
    rw [getElem!_def]
    have e : (p ++ x :: y :: q).toArray[p.length + 1]? = some y := by
      rw [List.getElem?_toArray, List.getElem?_append_right (by simp)]; simp
    rw [e]
  unfold swp
  rw [h1, h2, List.setIfInBounds_toArray, List.setIfInBounds_toArray]
  congr 1
  rw [List.set_append_right _ _ (by omega), show p.length + 1 - p.length = 0 + 1 by omega, List.set_cons_succ, List.set_cons_zero,
    List.set_append_right _ _ (Nat.le_refl _), Nat.sub_self, List.set_cons_zero]

theorem ins_done {α : Type} (k : α → Nat) (S : List α) (x : α) (L R : List α) (hS : isort k S = L ++ R) (hL : ∀ y ∈ L, k y ≤ k x) (hR : ∀ y ∈ R, k x < k y) : isort k (S ++ [x]) = L ++ x :: R := by
  rw [Rq.isort_append, hS]
  have e1 : isort k [x] = [x] := rfl
  have h1 := Rq.mrg_cut k L R [x] [] (by simpa using hR) (by simp)
  have h2 := Rq.mrg_cut k L [] [] [x] (by simp) (by simpa using hL)
  simp only [List.append_nil, List.nil_append, Rq.mrg_nil_right, Rq.mrg_nil_left] at h1 h2
  rw [e1, h1, h2]; simp

/-- Behind a sorted beginning whose last is no greater than x, all of it is not. -/
theorem up_last {α : Type} (k : α → Nat) (L R : List α) (y x : α) (h : Up k ((L ++ [y]) ++ R)) (hy : k y ≤ k x) : ∀ z ∈ L ++ [y], k z ≤ k x := by
  unfold Up at h
  rw [List.pairwise_append] at h
  have h1 := h.1
  rw [List.pairwise_append] at h1
  intro z hz
  rcases List.mem_append.1 hz with hz | hz
  · exact Nat.le_trans (h1.2.2 z hz y (by simp)) hy
  · simp at hz; subst hz; exact hy

section
variable {w0 W : World} {blk off cap : Nat} {d0 : Array Pg}
/-- The inner loop: x has come down to behind L. -/
def insAt (pre L : List Pg) (x : Pg) (R rest : List Pg) : List Pg := pre ++ (L ++ x :: R) ++ rest

set_option maxHeartbeats 2000000 in
set_option maxRecDepth 100000 in
theorem insort_calls (R : RowP w0 blk off d0) (pre X post : List Pg) (hs : (pre ++ X ++ post).length = d0.size) (hbig : d0.size ≤ 1000000) (hlight : Light X)
    (h : SWP w0 blk off (pre ++ X ++ post).toArray W) (az bz : Int) (ha : az = (pre.length : Nat)) (hb : bz = (pre.length + X.length : Nat)) :
    Calls Try.prog 120 #[.slice (some ⟨blk, off, none⟩) d0.size cap, .int .i64 az, .int .i64 bz, cmpF] W fun e w' =>
      e = .returned (.tuple #[]) ∧ SWP w0 blk off (pre ++ isort Pg.w X ++ post).toArray w' := by
  have HR := Aside0.mk R
  have HS := Aside0.mk h
  have HLt := Aside0.mk hlight
  have hsz : pre.length + X.length + post.length = d0.size := by
    have := hs; simp only [List.length_append] at this; omega
  obtain ⟨a, hal⟩ : ∃ a, a = pre.length := ⟨_, rfl⟩
  obtain ⟨b, hbl⟩ : ∃ b, b = pre.length + X.length := ⟨_, rfl⟩
  rw [← hbl] at hb
  rw [← hal] at ha
  subst ha hb
  have hab : a ≤ b := by omega
  have hbd : b ≤ d0.size := by omega
  have HA := Aside0.mk (And.intro hal hbl)
  have HSZ := Aside0.mk hsz
  have mixed : Try.prog.follows .mixedOrders = true := by kernel_rfl
  clear R h hs hlight hal hbl hsz
  go_enter Try.func120, Try.ntmps120
  go_wp2_with fail
  go_loopg [8] (b - a) (fun g1 v wr => ∃ i : Nat, v = .int .i64 i ∧ a < i ∧ i ≤ b + 1 ∧ b + 1 - i ≤ g1 + 1 ∧ Aside0 (SWP w0 blk off (pre ++ isort Pg.w (X.take (i - a)) ++ (X.drop (i - a) ++ post)).toArray wr))
  case atStart =>
    refine ⟨a + 1, by go_num, by omega, by omega, by omega, ⟨?_⟩⟩
    have e : isort Pg.w (X.take (a + 1 - a)) = X.take (a + 1 - a) := by
      rw [show a + 1 - a = 1 by omega]
      cases X with
      | nil => rfl
      | cons x X => rfl
    rw [e, ← List.append_assoc, List.append_assoc pre, List.take_append_drop]
    exact HS.out
  case round =>
    obtain ⟨i, rfl, hai, hib, hg1, HW⟩ := hrel
    by_cases hlt : i < b
    · have hltz : (i : Int) < (b : Int) := by omega
      obtain ⟨S, hS⟩ : ∃ S, S = isort Pg.w (X.take (i - a)) := ⟨_, rfl⟩
      have hlen : S.length = i - a := by
        rw [hS, Rq.isort_length, List.length_take]; have := HA.out; omega
      obtain ⟨x, hx⟩ : ∃ x, X.drop (i - a) = x :: X.drop (i - a + 1) := ⟨X[i - a]'(by have := HA.out; omega), List.drop_eq_getElem_cons (by have := HA.out; omega)⟩
      have hxm : x ∈ X := List.mem_of_mem_drop (by rw [hx]; exact List.mem_cons_self)
      have hSm : ∀ y ∈ S, y ∈ X := fun y hy => by rw [hS] at hy; exact List.mem_of_mem_take ((Rq.isort_perm _ _).mem_iff.1 hy)
      have hSu : Up Pg.w S := by rw [hS]; exact Rq.isort_up _ _
      have hnext : X.take (i + 1 - a) = X.take (i - a) ++ [x] ∧ X.drop (i + 1 - a) = X.drop (i - a + 1) := by
        have e : i + 1 - a = (i - a) + 1 := by omega
        refine ⟨?_, by rw [e]⟩
        rw [e, List.take_add_one]
        congr 1
        have : X[i - a]? = some x := by
          have h1 := congrArg List.head? hx
          rw [List.head?_drop] at h1
          simpa using h1
        rw [this]; rfl
      rw [← hS, hx] at HW
      obtain ⟨rest, hrest⟩ : ∃ rest, rest = X.drop (i - a + 1) ++ post := ⟨_, rfl⟩
      have hst : SWP w0 blk off (insAt pre S x [] rest).toArray wr := by
        unfold insAt; rw [hrest]; simpa using HW.out
      have HN := Aside0.mk hnext
      have HSI := Aside0.mk hS
      have HSl := Aside0.mk hlen
      have HSm := Aside0.mk hSm
      have HSu := Aside0.mk hSu
      have HXm := Aside0.mk hxm
      have Hrest := Aside0.mk hrest
      have Hst := Aside0.mk hst
      clear hnext hS hlen hSm hSu hxm hrest hst hx HW
      go_wp2_with fail
      go_loopg [9] i (fun g2 vj wr2 => ∃ (j : Nat), vj = .int .i64 j ∧ a ≤ j ∧ j ≤ i ∧ j ≤ g2 ∧ Aside0 (∃ L R, S = L ++ R ∧ L.length = j - a ∧ (∀ y ∈ R, x.w < y.w) ∧ SWP w0 blk off (insAt pre L x R rest).toArray wr2))
      case atStart => exact ⟨i, rfl, by omega, Nat.le_refl _, Nat.le_refl _, ⟨⟨S, [], by simp, HSl.out, by simp, Hst.out⟩⟩⟩
      case round =>
        obtain ⟨j, rfl, haj, hji, hg2, HI⟩ := hrel
        obtain ⟨L, Rr, hSL, hLl, hRx, hsw⟩ := HI.out
        have hlenAll : (insAt pre L x Rr rest).length = d0.size := by
          have h1 := congrArg List.length hSL
          rw [List.length_append, HSl.out] at h1
          have h2 := HSZ.out
          have h3 := HA.out
          unfold insAt
          rw [Hrest.out]
          simp only [List.length_append, List.length_cons, List.length_drop]
          omega
        have HD := Aside0.mk hlenAll
        have out : (∀ y ∈ L, y.w ≤ x.w) → ∀ W', SWP w0 blk off (insAt pre L x Rr rest).toArray W' → SWP w0 blk off (pre ++ isort Pg.w (X.take (i + 1 - a)) ++ (X.drop (i + 1 - a) ++ post)).toArray W' := fun hL W' hW' => by
          have e1 := ins_done Pg.w (X.take (i - a)) x L Rr (by rw [← HSI.out]; exact hSL) hL hRx
          rw [HN.out.1, HN.out.2, e1, ← Hrest.out]
          exact hW'
        have OUT := Aside0.mk out
        have HSW := Aside0.mk hsw
        have HRx := Aside0.mk hRx
        have HSL := Aside0.mk hSL
        have HLl := Aside0.mk hLl
        clear out hsw hRx hSL hLl hlenAll
        by_cases hja : a < j
        · obtain ⟨jp, rfl⟩ : ∃ jp, j = jp + 1 := ⟨j - 1, by omega⟩
          obtain ⟨L1, y, hL1⟩ : ∃ L1 y, L = L1 ++ [y] := by
            have : L ≠ [] := fun e => by have := HLl.out; rw [e] at this; simp at this; omega
            exact ⟨L.dropLast, L.getLast this, (List.dropLast_concat_getLast this).symm⟩
          subst hL1
          have hl1 : pre.length + L1.length = jp := by
            have := HLl.out; have := HA.out; simp only [List.length_append, List.length_singleton] at *; omega
          have hdk : insAt pre (L1 ++ [y]) x Rr rest = (pre ++ L1) ++ y :: x :: (Rr ++ rest) := by unfold insAt; simp
          obtain ⟨dk, hdkk⟩ : ∃ dk, dk = (insAt pre (L1 ++ [y]) x Rr rest).toArray := ⟨_, rfl⟩
          have hdl : dk.size = d0.size := by rw [hdkk]; simpa using HD.out
          have hxa : dk[jp + 1]! = x := by
            rw [getElem!_def]
            have e : dk[jp + 1]? = some x := by
              rw [hdkk, hdk, List.getElem?_toArray, List.getElem?_append_right (by simp; omega)]
              simp [show jp + 1 - (pre.length + L1.length) = 1 by omega]
            rw [e]
          have hya : dk[jp]! = y := by
            rw [getElem!_def]
            have e : dk[jp]? = some y := by
              rw [hdkk, hdk, List.getElem?_toArray, List.getElem?_append_right (by simp; omega)]
              simp [show jp - (pre.length + L1.length) = 0 by omega]
            rw [e]
          have hsw : SWP w0 blk off dk wr := by rw [hdkk]; exact HSW.out
          have hwx : x.w ≤ 1000000000000 := HLt.out x HXm.out
          have hwy : y.w ≤ 1000000000000 := HLt.out y (HSm.out y (by rw [HSL.out]; simp))
          have hjd : jp + 1 < d0.size := by omega
          have ax := fun n os => hxa ▸ pk_at (hsw.grown n os) HR.out hdl (jp + 1) (by omega)
          have ay := fun n os => hya ▸ pk_at (hsw.grown n os) HR.out hdl jp (by omega)
          have x0 := fun n os => (ax n os).1
          have x1 : ∀ n os, (grow (wr.drewN n) os).cell? ⟨blk, off + (jp + 1) * 2 + 1, none⟩ = some (.slice x.A x.n x.c) := fun n os => (ax n os).2.1
          have y0 := fun n os => (ay n os).1
          have y1 : ∀ n os, (grow (wr.drewN n) os).cell? ⟨blk, off + jp * 2 + 1, none⟩ = some (.slice y.A y.n y.c) := fun n os => (ay n os).2.1
          have hcg : ∀ n os, Calls Try.prog 90 #[.agg #[.int .i64 (x.w : Int), .slice x.A x.n x.c], .agg #[.int .i64 (y.w : Int), .slice y.A y.n y.c]] (grow (wr.drewN n) os) fun e w' => e = .returned (.int .i64 ((x.w : Int) - y.w)) ∧ ∃ q os', w' = grow ((grow (wr.drewN n) os).drewN q) os' := fun n os =>
            (cmp_calls x y hwx hwy (grow (wr.drewN n) os)).mono fun e w' ⟨he, os', hw⟩ => ⟨he, 0, os', hw⟩
          have HSW2 := Aside0.mk hsw
          have HC := Aside0.mk hcg
          have HXY := Aside0.mk (And.intro hxa hya)
          have Hdk := Aside0.mk (And.intro hdkk hdk)
          have HDL := Aside0.mk hdl
          have Hl1 := Aside0.mk hl1
          have j1 : IntKind.i64.wrap (jp : Int) = (jp : Int) := IntWalk.i64_in _ (by omega)
          have j2 : (jp : Int) + 1 < (d0.size : Int) := by omega
          have j3 : (jp : Int) < (d0.size : Int) := by omega
          have j4 : (a : Int) < (jp : Int) + 1 := by omega
          have j5 : (0 : Int) ≤ (jp : Int) + 1 := by omega
          have j6 : ((jp : Int) + 1).toNat = jp + 1 := by omega
          obtain ⟨u, hu⟩ : ∃ u, u = x.w := ⟨_, rfl⟩
          obtain ⟨v, hv⟩ : ∃ v, v = y.w := ⟨_, rfl⟩
          clear hsw hcg hxa hya hdkk hdk hdl hl1 ax ay
          by_cases hlv : x.w < y.w
          · have j7 : decide ((x.w : Int) - y.w < 0) = true := by simp; omega
            have j8 : (x.w : Int) - y.w < 0 := by omega
            go_wp2_with fail
            go_quiet_grown (first | (go_at_call 90; refine Calls.grown_of (HC.out _ _)))
            go_wp2_with fail
            have hg3 := HSW2.out.grown nq osq
            have b0 := x0 nq osq
            have b1 := x1 nq osq
            have b2 := y0 nq osq
            have b3 := y1 nq osq
            clear x0 x1 y0 y1
            generalize grow (wr.drewN nq) osq = W3 at hg3 b0 b1 b2 b3 ⊢
            have hfx := pk_at hg3 HR.out HDL.out (jp + 1) (by rw [HDL.out]; omega)
            have hfy := pk_at hg3 HR.out HDL.out jp (by rw [HDL.out]; omega)
            have b4 := hfx.2.2.1
            have b5 := hfx.2.2.2
            have b6 := hfy.2.2.1
            have b7 := hfy.2.2.2
            have hfin := SWK.swapped hg3 HR.out (jp + 1) jp (by rw [HDL.out]; omega) (by rw [HDL.out]; omega)
            rw [HXY.out.1, HXY.out.2] at hfin
            have HF := Aside0.mk hfin
            have n1 : ¬ off + jp * 2 = off + (jp + 1) * 2 := by omega
            have n2 : ¬ off + jp * 2 = off + (jp + 1) * 2 + 1 := by omega
            have n3 : ¬ off + jp * 2 + 1 = off + (jp + 1) * 2 := by omega
            have n4 : ¬ off + jp * 2 + 1 = off + (jp + 1) * 2 + 1 := by omega
            clear hfx hfy hfin hg3 hu hv
            go_big_region_o
            all_goals go_wp2_with fail
            go_roundg jp
            case measure => omega
            case rel =>
              refine ⟨jp, by go_num, by omega, by omega, Nat.le_refl _, ⟨⟨L1, y :: Rr, by rw [HSL.out]; simp, by have := Hl1.out; have := HA.out; omega, ?_, ?_⟩⟩⟩
              · intro z hz
                rcases List.mem_cons.1 hz with rfl | hz
                · exact hlv
                · exact HRx.out z hz
              · have h1 := HF.out
                have e : swp dk (jp + 1) jp = (insAt pre L1 x (y :: Rr) rest).toArray := by
                  rw [Hdk.out.1, Hdk.out.2, ← Hl1.out]
                  have := swp_down (pre ++ L1) (Rr ++ rest) y x
                  rw [List.length_append] at this
                  rw [this]; unfold insAt; simp
                rw [e] at h1
                exact h1
          · have j7 : decide ((x.w : Int) - y.w < 0) = false := by simp; omega
            have j8 : ¬ (x.w : Int) - y.w < 0 := by omega
            clear hu hv
            go_wp2_with fail
            go_quiet_grown (first | (go_at_call 90; refine Calls.grown_of (HC.out _ _)))
            go_wp2_with fail
            go_roundg (b - (i + 1))
            case measure => omega
            case rel =>
              refine ⟨i + 1, by go_num, by omega, by omega, by omega, ⟨?_⟩⟩
              refine OUT.out ?_ _ (Hdk.out.1 ▸ HSW2.out.grown nq osq)
              have hu2 := HSu.out
              rw [HSL.out] at hu2
              exact up_last Pg.w L1 Rr y x hu2 (by omega)
        · have hjaz' : ¬ (a : Int) < (j : Int) := by omega
          have hje : j = a := by omega
          have hL0 : L = [] := List.eq_nil_of_length_eq_zero (by have := HLl.out; omega)
          have HL0 := Aside0.mk hL0
          clear hL0
          subst hje
          go_wp2_with fail
          go_big_region_o
          all_goals go_wp2_with fail
          go_roundg (b - (i + 1))
          case measure => omega
          case rel =>
            refine ⟨i + 1, by go_num, by omega, by omega, by omega, ⟨?_⟩⟩
            refine OUT.out (by rw [HL0.out]; simp) _ HSW.out.drew
    · have hltz : ¬ (i : Int) < (b : Int) := by omega
      go_wp2_with fail
      go_end0
      refine ⟨rfl, ?_⟩
      have e1 : X.take (i - a) = X := List.take_of_length_le (by have := HA.out; omega)
      have e2 : X.drop (i - a) = [] := List.drop_of_length_le (by have := HA.out; omega)
      have h1 := HW.out
      rw [e1, e2, List.nil_append] at h1
      rw [List.append_assoc] at h1
      exact h1
end
end Go.Proofs.Ythfkjejjndgajaa

/- Two stretches that stand side by side change places (slices.rotateCmpFunc). -/
namespace Go.Proofs.Ythfkjejjndgajaa
open Go.RowKit Go.Proofs.YthfkjejjndgajaaW.PrintWords Go.Sort Go.Lib Go.Shelf
open Go.Proofs (SWK RowK)

section
variable {w0 W : World} {blk off cap : Nat} {d0 : Array Pg}
set_option maxHeartbeats 1000000 in
set_option maxRecDepth 100000 in
theorem rotate_calls (R : RowP w0 blk off d0) (pre X Y post : List Pg) (hx : 0 < X.length) (hy : 0 < Y.length) (hs : (pre ++ X ++ Y ++ post).length = d0.size) (hbig : d0.size ≤ 1000000)
    (h : SWP w0 blk off (pre ++ X ++ Y ++ post).toArray W) (az mz bz : Int) (ha : az = (pre.length : Nat)) (hm : mz = (pre.length + X.length : Nat)) (hb : bz = (pre.length + X.length + Y.length : Nat)) :
    Calls Try.prog 135 #[.slice (some ⟨blk, off, none⟩) d0.size cap, .int .i64 az, .int .i64 mz, .int .i64 bz, cmpF] W fun e w' =>
      e = .returned (.tuple #[]) ∧ SWP w0 blk off (pre ++ Y ++ X ++ post).toArray w' := by
  have HR := Aside0.mk R
  have HS := Aside0.mk h
  have hsz : pre.length + X.length + Y.length + post.length = d0.size := by
    have := hs; simp only [List.length_append] at this; omega
  obtain ⟨m, hml⟩ : ∃ m, m = pre.length + X.length := ⟨_, rfl⟩
  have HM := Aside0.mk (And.intro hml hsz)
  have HSl := Aside0.mk hs
  rw [← hml] at hm hb
  subst ha hm hb
  have xa : X.length ≤ m := by omega
  have xb : m + Y.length ≤ d0.size := by omega
  obtain ⟨a, hal⟩ : ∃ a, a = pre.length := ⟨_, rfl⟩
  obtain ⟨ix, hix⟩ : ∃ i, i = X.length := ⟨_, rfl⟩
  obtain ⟨jy, hjy⟩ : ∃ j, j = Y.length := ⟨_, rfl⟩
  obtain ⟨b, hbb⟩ : ∃ b, b = m + Y.length := ⟨_, rfl⟩
  rw [← hal, ← hbb]
  rw [← hix] at xa hx
  rw [← hjy] at xb hy
  have ex : (m : Int) - a = (ix : Int) := by omega
  have ey : (b : Int) - m = (jy : Int) := by omega
  have HI := Aside0.mk (And.intro hix hjy)
  have HA := Aside0.mk hal
  have hma : a ≤ m := by omega
  clear R h hs hml hsz hal hix hjy hbb
  go_enter Try.func135, Try.ntmps135
  go_wp2_with fail
  clear ex ey
  go_loopw [10, 11] (fun vi vj wr => ∃ (i j : Nat), vi = .int .i64 i ∧ vj = .int .i64 j ∧ Aside0 (∃ P X1 Y1 Q, X1.length = i ∧ Y1.length = j ∧ 0 < i ∧ 0 < j ∧ P.length + i = m ∧ (P ++ X1 ++ Y1 ++ Q).length = d0.size ∧
      P ++ Y1 ++ X1 ++ Q = pre ++ Y ++ X ++ post ∧ SWP w0 blk off (P ++ X1 ++ Y1 ++ Q).toArray wr)) (fun vi vj _ => (intOf vi + intOf vj).toNat)
  case atStart => exact ⟨ix, jy, rfl, rfl, ⟨pre, X, Y, post, HI.out.1.symm, HI.out.2.symm, hx, hy, by have := HM.out.1; have := HI.out; omega, HSl.out, rfl, HS.out⟩⟩
  case round =>
    obtain ⟨i, j, rfl, rfl, HJ⟩ := hrel
    obtain ⟨P, X1, Y1, Q, lx, ly, hi, hj, hP, hlen, hT, hsw⟩ := HJ.out
    have hall : P.length + X1.length + Y1.length + Q.length = d0.size := by
      have := hlen; simp only [List.length_append] at this; omega
    have him : i ≤ m := by omega
    have hjm : m + j ≤ d0.size := by omega
    have HSW := Aside0.mk hsw
    have HT := Aside0.mk hT
    have HP := Aside0.mk (And.intro hP (And.intro lx ly))
    have HL := Aside0.mk (And.intro hlen hall)
    clear hsw hT hP lx ly hlen hall HJ
    have k1 : IntKind.i64.wrap ((m : Int) - i) = (m : Int) - i := IntWalk.i64_in _ (by omega)
    by_cases hij : i = j
    · subst hij
      have b1 : ((i : Int) != (i : Int)) = false := by simp
      go_wp2_with fail
      refine (swapR_calls HR.out P X1 [] Y1 Q i HP.out.2.1 HP.out.2.2 (by simpa using HL.out.1) hbig (by simpa using HSW.out) _ _ _ (by have := HP.out.1; omega) (by have := HP.out.1; simp; omega) rfl cmpF).mono ?_
      rintro e w1 ⟨rfl, hsw1⟩
      have H1 := Aside0.mk hsw1
      clear hsw1
      go_wp2_with fail
      go_end0
      refine ⟨rfl, ?_⟩
      have h1 := H1.out
      have h2 := HT.out
      simp only [List.append_nil, List.append_assoc] at h1 h2 ⊢
      rw [h2] at h1
      exact h1
    · have b1 : ((i : Int) != (j : Int)) = true := by rw [bne_iff_ne]; omega
      by_cases hgt : j < i
      · have b2 : (j : Int) < i := by omega
        have b2' : decide ((j : Int) < i) = true := decide_eq_true b2
        obtain ⟨X2, X3, e23, l2⟩ : ∃ X2 X3, X1 = X2 ++ X3 ∧ X2.length = j := ⟨X1.take j, X1.drop j, (List.take_append_drop _ _).symm, by rw [List.length_take]; have := HP.out.2.1; omega⟩
        have l3 : X3.length = i - j := by have h1 := HP.out.2.1; rw [e23, List.length_append] at h1; omega
        have HE := Aside0.mk (And.intro e23 (And.intro l2 l3))
        have hsw2 := HSW.out
        have hlen2 := HL.out.1
        have hT2 := HT.out
        rw [e23] at hsw2 hlen2 hT2
        have HS2 := Aside0.mk hsw2
        have HL2 := Aside0.mk hlen2
        have HT2 := Aside0.mk hT2
        clear e23 l2 l3 hsw2 hlen2 hT2
        go_wp2_with fail
        refine (swapR_calls HR.out P X2 X3 Y1 Q j HE.out.2.1 HP.out.2.2 (by simpa using HL2.out) hbig (by simpa using HS2.out) _ _ _ (by have := HP.out.1; omega) (by have := HP.out.1; have := HE.out.2.2; simp; omega) rfl cmpF).mono ?_
        rintro e w1 ⟨rfl, hsw1⟩
        have H1 := Aside0.mk hsw1
        clear hsw1
        go_wp2_with fail
        go_roundw
        case rel =>
          refine ⟨i - j, j, by rw [show ((i : Int) - j) = ((i - j : Nat) : Int) by omega], rfl, ⟨P ++ Y1, X3, X2, Q, HE.out.2.2, HE.out.2.1, by omega, hj, ?_, ?_, ?_, ?_⟩⟩
          · have := HP.out; rw [List.length_append]; omega
          · have := HL2.out; simp only [List.length_append] at this ⊢; omega
          · have := HT2.out; simpa using this
          · have := H1.out; simpa using this
        case measure => simp [intOf]; omega
      · have b2 : ¬ (j : Int) < i := by omega
        have b2' : decide ((j : Int) < i) = false := decide_eq_false b2
        obtain ⟨Y2, Y3, e23, l3⟩ : ∃ Y2 Y3, Y1 = Y2 ++ Y3 ∧ Y3.length = i := ⟨Y1.take (j - i), Y1.drop (j - i), (List.take_append_drop _ _).symm, by rw [List.length_drop]; have := HP.out.2.2; omega⟩
        have l2 : Y2.length = j - i := by have h1 := HP.out.2.2; rw [e23, List.length_append] at h1; omega
        have HE := Aside0.mk (And.intro e23 (And.intro l2 l3))
        have hsw2 := HSW.out
        have hlen2 := HL.out.1
        have hT2 := HT.out
        rw [e23] at hsw2 hlen2 hT2
        have HS2 := Aside0.mk hsw2
        have HL2 := Aside0.mk hlen2
        have HT2 := Aside0.mk hT2
        have k2 : IntKind.i64.wrap ((m : Int) + j - i) = (m : Int) + j - i := IntWalk.i64_in _ (by omega)
        clear e23 l2 l3 hsw2 hlen2 hT2
        go_wp2_with fail
        refine (swapR_calls HR.out P X1 Y2 Y3 Q i HP.out.2.1 HE.out.2.2 (by simpa using HL2.out) hbig (by simpa using HS2.out) _ _ _ (by have := HP.out.1; omega) (by have := HP.out.1; have := HE.out.2.1; simp; omega) rfl cmpF).mono ?_
        rintro e w1 ⟨rfl, hsw1⟩
        have H1 := Aside0.mk hsw1
        clear hsw1
        go_wp2_with fail
        go_roundw
        case rel =>
          refine ⟨i, j - i, rfl, by rw [show ((j : Int) - i) = ((j - i : Nat) : Int) by omega], ⟨P, Y3, Y2, X1 ++ Q, HE.out.2.2, HE.out.2.1, hi, by omega, HP.out.1, ?_, ?_, ?_⟩⟩
          · have := HL2.out; simp only [List.length_append] at this ⊢; omega
          · have := HT2.out; simpa using this
          · have := H1.out; simpa using this
        case measure => simp [intOf]; omega
end
end Go.Proofs.Ythfkjejjndgajaa
