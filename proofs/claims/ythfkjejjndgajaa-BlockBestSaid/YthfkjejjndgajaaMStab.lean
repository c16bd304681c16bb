/- MStab: Stable, SortS, Clone. -/
import Derived.Test.YthfkjejjndgajaaSymm3
import Derived.Test.YthfkjejjndgajaaMBase
import Derived.WalkSpells
import Derived.Lib.LazyBuf
/- A row of packs put in order, alike ones as they stood (slices.SortStableFunc). -/
namespace Go.Proofs.Ythfkjejjndgajaa
open Go.RowKit Go.Proofs.YthfkjejjndgajaaW.PrintWords Go.Sort Go.Lib Go.Shelf
open Go.Proofs (SWK RowK)
open Rq (mrg isort Up)

section plain
variable {α : Type} (k : α → Nat)
/-- The first t blocks of so many each, each in order. -/
def blocksM (bs : Nat) (D : List α) (t : Nat) : List α := ((List.range t).map fun i => isort k ((D.drop (i * bs)).take bs)).flatten
theorem blocksM_zero (bs : Nat) (D : List α) : blocksM k bs D 0 = [] := rfl
theorem blocksM_succ (bs : Nat) (D : List α) (t : Nat) : blocksM k bs D (t + 1) = blocksM k bs D t ++ isort k ((D.drop (t * bs)).take bs) := by
  unfold blocksM; rw [List.range_succ, List.map_append, List.flatten_append]; simp
theorem blocksM_cons (bs : Nat) (D : List α) (t : Nat) : blocksM k bs D (t + 1) = isort k (D.take bs) ++ blocksM k bs (D.drop bs) t := by
  unfold blocksM
  rw [List.range_succ_eq_map, List.map_cons, List.flatten_cons, List.map_map]
  simp only [Nat.zero_mul, List.drop_zero]
  congr 2
  apply List.map_congr_left
  intro i _
  simp only [Function.comp, List.drop_drop]
  rw [show i.succ * bs = bs + i * bs by rw [Nat.succ_mul, Nat.add_comm]]
theorem blocksM_more (bs : Nat) (D : List α) (t : Nat) (h : D.length ≤ t * bs) : ∀ d, blocksM k bs D (t + d) = blocksM k bs D t := by
  intro d
  induction d with
  | zero => rfl
  | succ d ih =>
    rw [← Nat.add_assoc, blocksM_succ, ih, List.drop_of_length_le]
    · simp [isort]
    · exact Nat.le_trans h (Nat.mul_le_mul_right _ (by omega))
theorem blocksM_cover (bs : Nat) (D : List α) (t u : Nat) (h : D.length ≤ t * bs) (h2 : D.length ≤ u * bs) : blocksM k bs D t = blocksM k bs D u := by
  rcases Nat.le_total t u with hle | hle
  · have := blocksM_more k bs D t h (u - t); rw [show t + (u - t) = u by omega] at this; exact this.symm
  · have := blocksM_more k bs D u h2 (t - u); rw [show u + (t - u) = t by omega] at this; exact this
theorem blocksM_len (bs : Nat) (D : List α) (t : Nat) (h : t * bs ≤ D.length) : (blocksM k bs D t).length = t * bs := by
  induction t with
  | zero => simp [blocksM]
  | succ t ih =>
    have e : (t + 1) * bs = t * bs + bs := Nat.succ_mul t bs
    rw [blocksM_succ, List.length_append, ih (by omega), Rq.isort_length, List.length_take, List.length_drop]; omega
/-- All blocks. -/
def allB (bs : Nat) (D : List α) : List α := blocksM k bs D D.length
theorem allB_of (bs : Nat) (hb : 0 < bs) (D : List α) (t : Nat) (h : D.length ≤ t * bs) : blocksM k bs D t = allB k bs D :=
  blocksM_cover k bs D t D.length h (Nat.le_mul_of_pos_right _ hb)
theorem allB_nil (bs : Nat) : allB k bs ([] : List α) = [] := rfl
theorem allB_one (bs : Nat) (hb : 0 < bs) (D : List α) (h : D.length ≤ bs) : allB k bs D = isort k D := by
  rw [← allB_of k bs hb D 1 (by omega), blocksM_succ, blocksM_zero, Nat.zero_mul, List.drop_zero, List.take_of_length_le h, List.nil_append]
theorem allB_cons (bs : Nat) (hb : 0 < bs) (D : List α) : allB k bs D = isort k (D.take bs) ++ allB k bs (D.drop bs) := by
  have h : D.length ≤ (D.length + 1) * bs := Nat.le_trans (Nat.le_succ _) (Nat.le_mul_of_pos_right _ hb)
  rw [← allB_of k bs hb D (D.length + 1) h, blocksM_cons]
  congr 1
  exact allB_of k bs hb _ _ (by rw [List.length_drop]; exact Nat.le_trans (Nat.sub_le _ _) (Nat.le_mul_of_pos_right _ hb))
theorem allB_length (bs : Nat) (hb : 0 < bs) (D : List α) : (allB k bs D).length = D.length := by
  have key : ∀ n (D : List α), D.length ≤ n → (allB k bs D).length = D.length := by
    intro n
    induction n with
    | zero =>
      intro D h
      have : D = [] := List.eq_nil_of_length_eq_zero (by omega)
      subst this; rfl
    | succ n ih =>
      intro D h
      cases D with
      | nil => rfl
      | cons x D =>
        rw [allB_cons k bs hb, List.length_append, Rq.isort_length, ih _ (by rw [List.length_drop]; simp only [List.length_cons] at *; omega), List.length_take, List.length_drop]
        omega
  exact key _ D (Nat.le_refl _)
end plain

section
variable {w0 W wr : World} {blk off cap : Nat} {d0 dk : Array Pg}
theorem symm_all (R : RowP w0 blk off d0) (hbig : d0.size ≤ 1000000) : ∀ N, SymmOK w0 blk off cap d0 N := by
  intro N
  induction N with
  | zero => intro pre A B post W az mz bz h1 h2; omega
  | succ N ih =>
    intro pre A B post W az mz bz hN hA0 hB0 hs hA hB hlA hlB h ha hm hb
    rcases Nat.lt_or_ge 1 A.length with h1 | h1
    · rcases Nat.lt_or_ge 1 B.length with h2 | h2
      · exact symm_gen R hbig N ih pre A B post W az mz bz hN h1 h2 hs hA hB hlA hlB h ha hm hb
      · obtain ⟨y, rfl⟩ : ∃ y, B = [y] := by
          match B, hB0, h2 with
          | [y], _, _ => exact ⟨y, rfl⟩
        exact symm_right R pre A y post (by omega) (by simpa using hs) hbig hA (hlB y (by simp)) hlA (by simpa using h) az mz bz ha hm (by simpa using hb)
    · obtain ⟨x, rfl⟩ : ∃ x, A = [x] := by
        match A, hA0, h1 with
        | [x], _, _ => exact ⟨x, rfl⟩
      exact symm_left R pre x B post (by simpa using hs) hbig hB (hlA x (by simp)) hlB (by simpa using h) az mz bz ha (by simpa using hm) (by simpa using hb)

theorem symm_calls (R : RowP w0 blk off d0) (hbig : d0.size ≤ 1000000) (pre A B post : List Pg) (W : World) (az mz bz : Int) (hA0 : 0 < A.length) (hB0 : 0 < B.length) (hs : (pre ++ A ++ B ++ post).length = d0.size)
    (hA : Up Pg.w A) (hB : Up Pg.w B) (hlA : Light A) (hlB : Light B) (h : SWP w0 blk off (pre ++ A ++ B ++ post).toArray W) (ha : az = (pre.length : Nat)) (hm : mz = (pre.length + A.length : Nat)) (hb : bz = (pre.length + A.length + B.length : Nat)) :
    Calls Try.prog 121 #[.slice (some ⟨blk, off, none⟩) d0.size cap, .int .i64 az, .int .i64 mz, .int .i64 bz, cmpF] W fun e w' =>
      e = .returned (.tuple #[]) ∧ SWP w0 blk off (pre ++ mrg Pg.w A B ++ post).toArray w' :=
  symm_all R hbig (A.length + B.length) pre A B post W az mz bz (Nat.le_refl _) hA0 hB0 hs hA hB hlA hlB h ha hm hb

set_option maxHeartbeats 2000000 in
theorem stable_calls (R : RowP w0 blk off d0) (D : List Pg) (hs : D.length = d0.size) (hbig : d0.size ≤ 1000000) (hl : Light D) (h : SWP w0 blk off D.toArray W) (nz : Int) (hn : nz = d0.size) :
    Calls Try.prog 106 #[.slice (some ⟨blk, off, none⟩) d0.size cap, .int .i64 nz, cmpF] W fun e w' =>
      e = .returned (.tuple #[]) ∧ SWP w0 blk off (isort Pg.w D).toArray w' := by
  have HR := Aside0.mk R
  have HS := Aside0.mk h
  have HD := Aside0.mk hs
  have HL := Aside0.mk hl
  obtain ⟨n, hnn⟩ : ∃ n, n = d0.size := ⟨_, rfl⟩
  have Hn := Aside0.mk hnn
  rw [← hnn] at hn
  subst hn
  have hbn : n ≤ 1000000 := by omega
  clear R h hs hl hnn
  go_enter Try.func106, Try.ntmps106
  go_wp2_with fail
  go_loopg [7, 8] n (fun g va vb wr => ∃ a b t : Nat, va = .int .i64 a ∧ vb = .int .i64 b ∧ Aside0 (a = 20 * t ∧ b = 20 * t + 20 ∧ a ≤ n ∧ n - a ≤ g) ∧ Aside0 (SWP w0 blk off (blocksM Pg.w 20 D t ++ D.drop a).toArray wr))
  case atStart => exact ⟨0, 20, 0, rfl, rfl, ⟨rfl, rfl, by omega, by omega⟩, ⟨by simpa [blocksM] using HS.out⟩⟩
  case round =>
    obtain ⟨a, b, t, rfl, rfl, HT, HW⟩ := hrel
    have han : a ≤ n := HT.out.2.2.1
    by_cases hlt : b ≤ n
    · have q1 : (b : Int) ≤ n := by omega
      have hblk : (blocksM Pg.w 20 D t).length = a := by
        have := HT.out; have := HD.out; have := Hn.out
        rw [blocksM_len _ _ _ _ (by omega)]; omega
      have hX : ((D.drop a).take 20).length = 20 := by
        have := HT.out; have := HD.out; have := Hn.out
        rw [List.length_take, List.length_drop]; omega
      have hs3 : blocksM Pg.w 20 D t ++ (D.drop a).take 20 ++ D.drop b = blocksM Pg.w 20 D t ++ D.drop a := by
        rw [List.append_assoc]; congr 1
        have e : b = a + 20 := by have := HT.out; omega
        rw [e, ← List.drop_drop, List.take_append_drop]
      have hnew : blocksM Pg.w 20 D t ++ isort Pg.w ((D.drop a).take 20) = blocksM Pg.w 20 D (t + 1) := by
        rw [blocksM_succ, HT.out.1, Nat.mul_comm 20 t]
      have HX := Aside0.mk (And.intro hblk (And.intro hX (And.intro hs3 hnew)))
      clear hblk hX hs3 hnew
      go_wp2_with fail
      refine (insort_calls HR.out (blocksM Pg.w 20 D t) ((D.drop a).take 20) (D.drop b) (by rw [HX.out.2.2.1]; have := HX.out.1; have := HD.out; have := Hn.out; simp only [List.length_append, List.length_drop]; omega) (by have := Hn.out; omega) (fun p hp => HL.out p (List.mem_of_mem_drop (List.mem_of_mem_take hp))) (by rw [HX.out.2.2.1]; exact HW.out) _ _ (by rw [HX.out.1]) (by rw [HX.out.1, HX.out.2.1]; have := HT.out; omega)).mono ?_
      rintro e w1 ⟨rfl, hsw1⟩
      rw [HX.out.2.2.2] at hsw1
      have H1 := Aside0.mk hsw1
      clear hsw1
      go_wp2_with fail
      go_roundg (n - b)
      case measure => have := HT.out; omega
      case rel => exact ⟨b, b + 20, t + 1, rfl, by go_num, ⟨by have := HT.out; omega, by have := HT.out; omega, by omega, Nat.le_refl _⟩, H1⟩
    · have q1 : ¬ (b : Int) ≤ n := by omega
      have hblk : (blocksM Pg.w 20 D t).length = a := by
        have := HT.out; have := HD.out; have := Hn.out
        rw [blocksM_len _ _ _ _ (by omega)]; omega
      have hX : a + (D.drop a).length = n := by
        have := HT.out; have := HD.out; have := Hn.out
        rw [List.length_drop]; omega
      have hnew : blocksM Pg.w 20 D t ++ isort Pg.w (D.drop a) = allB Pg.w 20 D := by
        have h1 : D.drop a = (D.drop (t * 20)).take 20 := by
          rw [HT.out.1, Nat.mul_comm 20 t, List.take_of_length_le]
          have := HT.out; have := HD.out; have := Hn.out
          rw [List.length_drop]; omega
        rw [h1, ← blocksM_succ]
        exact allB_of _ _ (by omega) _ _ (by have := HT.out; have := HD.out; have := Hn.out; omega)
      have HX := Aside0.mk (And.intro hblk (And.intro hX hnew))
      clear hblk hX hnew
      go_wp2_with fail
      refine (insort_calls HR.out (blocksM Pg.w 20 D t) (D.drop a) [] (by have := HX.out.1; have := HX.out.2.1; have := HD.out; have := Hn.out; simp only [List.length_append, List.length_nil]; omega) (by have := Hn.out; omega) (fun p hp => HL.out p (List.mem_of_mem_drop hp)) (by simpa using HW.out) _ _ (by rw [HX.out.1]) (by have := HX.out; omega)).mono ?_
      rintro e w1 ⟨rfl, hsw1⟩
      rw [HX.out.2.2, List.append_nil] at hsw1
      have H1 := Aside0.mk hsw1
      clear hsw1 HX HW
      go_wp2_with fail
      go_loopg [6] n (fun g v6 wr => ∃ bs : Nat, v6 = .int .i64 bs ∧ 20 ≤ bs ∧ n - bs ≤ g ∧ bs ≤ 2000000 ∧ Aside0 (SWP w0 blk off (allB Pg.w bs D).toArray wr))
      case atStart => exact ⟨20, rfl, Nat.le_refl _, by omega, by omega, H1⟩
      case round =>
        clear H1 HT q1 han hlt
        obtain ⟨bs, rfl, hbs, hg, hbs2, HW⟩ := hrel
        by_cases hlt : bs < n
        · have q1 : (bs : Int) < n := by omega
          obtain ⟨b2, hb2⟩ : ∃ b2, b2 = 2 * bs := ⟨_, rfl⟩
          have q2 : (2 : Int) * bs = (b2 : Int) := by omega
          have q3 : b2 ≤ 4000000 := by omega
          have Hb2 := Aside0.mk hb2
          clear hb2
          go_wp2_with fail
          go_loopg [7, 8] n (fun g va vb wr => ∃ a b t : Nat, va = .int .i64 a ∧ vb = .int .i64 b ∧ Aside0 (a = b2 * t ∧ b = a + b2 ∧ n - a ≤ g) ∧ a ≤ n ∧ b ≤ 6000000 ∧ Aside0 (SWP w0 blk off (blocksM Pg.w b2 D t ++ allB Pg.w bs (D.drop a)).toArray wr))
          case atStart => exact ⟨0, b2, 0, rfl, rfl, ⟨by omega, by omega, by omega⟩, by omega, by omega, ⟨by simpa [blocksM] using HW.out⟩⟩
          case round =>
            obtain ⟨a, b, t, rfl, rfl, HT, han, hb6, HV⟩ := hrel
            have hDl : D.length = n := by rw [HD.out, ← Hn.out]
            have hblk : (blocksM Pg.w b2 D t).length = a := by
              have := HT.out
              rw [blocksM_len _ _ _ _ (by rw [Nat.mul_comm]; omega), Nat.mul_comm]; omega
            have hbl2 : (D.drop a).take b2 = (D.drop (t * b2)).take b2 := by rw [HT.out.1, Nat.mul_comm]
            have hq4 : IntKind.i64.wrap ((b : Int) + (b2 : Int)) = (b : Int) + b2 := IntWalk.i64_in _ (by omega)
            by_cases hbn2 : b ≤ n
            · have q4 : (b : Int) ≤ n := by omega
              obtain ⟨m, hm⟩ : ∃ m, m = a + bs := ⟨_, rfl⟩
              have q5 : (a : Int) + bs = (m : Int) := by omega
              have e1 : allB Pg.w bs (D.drop a) = isort Pg.w ((D.drop a).take bs) ++ (isort Pg.w ((D.drop m).take bs) ++ allB Pg.w bs (D.drop b)) := by
                rw [allB_cons _ _ (by omega) (D.drop a), List.drop_drop, ← hm, allB_cons _ _ (by omega) (D.drop m), List.drop_drop]
                rw [show m + bs = b by have := HT.out; have := Hb2.out; omega]
              have l1 : (isort Pg.w ((D.drop a).take bs)).length = bs := by
                rw [Rq.isort_length, List.length_take, List.length_drop]; have := HT.out; have := Hb2.out; omega
              have l2 : (isort Pg.w ((D.drop m).take bs)).length = bs := by
                rw [Rq.isort_length, List.length_take, List.length_drop]; have := HT.out; have := Hb2.out; omega
              have e2 : mrg Pg.w (isort Pg.w ((D.drop a).take bs)) (isort Pg.w ((D.drop m).take bs)) = isort Pg.w ((D.drop (t * b2)).take b2) := by
                rw [← Rq.isort_append, ← hbl2]
                congr 1
                rw [Hb2.out, show 2 * bs = bs + bs by omega, List.take_add, List.drop_drop, ← hm]
              have l3 : (allB Pg.w bs (D.drop b)).length = n - b := by
                have h1 := HV.out
                have h2 := (congrArg List.length e1)
                have h3 := blocksM_len Pg.w bs D 0 (by omega)
                have := allB_length Pg.w bs (by omega) (D.drop b)
                rw [this, List.length_drop, hDl]
              have hV := HV.out
              rw [e1, ← List.append_assoc, ← List.append_assoc] at hV
              have HX := Aside0.mk (And.intro hblk (And.intro hm (And.intro l1 (And.intro l2 (And.intro e2 (And.intro l3 hV))))))
              clear hblk hm e1 l1 l2 e2 l3 hV hbl2 hDl
              go_wp2_with fail
              refine (symm_calls HR.out (by have := Hn.out; omega) (blocksM Pg.w b2 D t) (isort Pg.w ((D.drop a).take bs)) (isort Pg.w ((D.drop m).take bs)) (allB Pg.w bs (D.drop b)) _ _ _ _ (by have := HX.out; omega) (by have := HX.out; omega)
                (by have := HX.out; have := HT.out; have := Hb2.out; have := Hn.out; simp only [List.length_append]; omega) (Rq.isort_up _ _) (Rq.isort_up _ _) (fun p hp => HL.out p (List.mem_of_mem_drop (List.mem_of_mem_take ((Rq.isort_perm _ _).mem_iff.1 hp))))
                (fun p hp => HL.out p (List.mem_of_mem_drop (List.mem_of_mem_take ((Rq.isort_perm _ _).mem_iff.1 hp)))) HX.out.2.2.2.2.2.2 (by rw [HX.out.1]) (by have := HX.out; omega) (by have := HX.out; have := HT.out; have := Hb2.out; omega)).mono ?_
              rintro e w2 ⟨rfl, hsw2⟩
              rw [HX.out.2.2.2.2.1, ← blocksM_succ] at hsw2
              have H2 := Aside0.mk hsw2
              clear hsw2
              go_wp2_with fail
              go_roundg (n - b)
              case measure => have := HT.out; omega
              case rel => exact ⟨b, b + b2, t + 1, rfl, by go_num, ⟨by have := HT.out; rw [Nat.mul_succ]; omega, rfl, Nat.le_refl _⟩, hbn2, by omega, H2⟩
            · have q4 : ¬ (b : Int) ≤ n := by omega
              obtain ⟨m, hm⟩ : ∃ m, m = a + bs := ⟨_, rfl⟩
              have q5 : (a : Int) + bs = (m : Int) := by omega
              have q6 : (bs : Int) * 2 = (b2 : Int) := by have := Hb2.out; omega
              have hfin : blocksM Pg.w b2 D t ++ isort Pg.w (D.drop a) = allB Pg.w b2 D := by
                have h1 : D.drop a = (D.drop (t * b2)).take b2 := by
                  rw [← hbl2, List.take_of_length_le]
                  rw [List.length_drop]; have := HT.out; omega
                rw [h1, ← blocksM_succ]
                exact allB_of _ _ (by have := Hb2.out; omega) _ _ (by have := HT.out; rw [Nat.succ_mul, Nat.mul_comm t]; omega)
              by_cases hmn : m < n
              · have q7 : (m : Int) < n := by omega
                have e1 : allB Pg.w bs (D.drop a) = isort Pg.w ((D.drop a).take bs) ++ isort Pg.w (D.drop m) := by
                  rw [allB_cons _ _ (by omega) (D.drop a), List.drop_drop, ← hm, allB_one _ _ (by omega) (D.drop m) (by rw [List.length_drop]; have := HT.out; have := Hb2.out; omega)]
                have l1 : (isort Pg.w ((D.drop a).take bs)).length = bs := by
                  rw [Rq.isort_length, List.length_take, List.length_drop]; omega
                have l2 : (isort Pg.w (D.drop m)).length = n - m := by
                  rw [Rq.isort_length, List.length_drop]; omega
                have e2 : mrg Pg.w (isort Pg.w ((D.drop a).take bs)) (isort Pg.w (D.drop m)) = isort Pg.w (D.drop a) := by
                  rw [← Rq.isort_append]
                  congr 1
                  rw [hm, ← List.drop_drop, List.take_append_drop]
                have hV := HV.out
                rw [e1, ← List.append_assoc] at hV
                have HX := Aside0.mk (And.intro hblk (And.intro hm (And.intro l1 (And.intro l2 (And.intro e2 (And.intro hfin hV))))))
                clear hblk hm e1 l1 l2 e2 hV hbl2 hDl hfin
                go_wp2_with fail
                refine (symm_calls HR.out (by have := Hn.out; omega) (blocksM Pg.w b2 D t) (isort Pg.w ((D.drop a).take bs)) (isort Pg.w (D.drop m)) [] _ _ _ _ (by have := HX.out; omega) (by have := HX.out; omega)
                  (by have := HX.out; have := HT.out; have := Hb2.out; have := Hn.out; simp only [List.length_append, List.length_nil]; omega) (Rq.isort_up _ _) (Rq.isort_up _ _) (fun p hp => HL.out p (List.mem_of_mem_drop (List.mem_of_mem_take ((Rq.isort_perm _ _).mem_iff.1 hp))))
                  (fun p hp => HL.out p (List.mem_of_mem_drop ((Rq.isort_perm _ _).mem_iff.1 hp))) (by rw [List.append_nil]; exact HX.out.2.2.2.2.2.2) (by rw [HX.out.1]) (by have := HX.out; omega) (by have := HX.out; omega)).mono ?_
                rintro e w2 ⟨rfl, hsw2⟩
                rw [HX.out.2.2.2.2.1, HX.out.2.2.2.2.2.1, List.append_nil] at hsw2
                have H2 := Aside0.mk hsw2
                clear hsw2
                go_wp2_with fail
                go_roundg (n - b2)
                case measure => have := Hb2.out; omega
                case rel => exact ⟨b2, rfl, by have := Hb2.out; omega, Nat.le_refl _, by have := Hb2.out; omega, H2⟩
              · have q7 : ¬ (m : Int) < n := by omega
                have hV := HV.out
                rw [allB_one _ _ (by omega) (D.drop a) (by rw [List.length_drop]; omega), hfin] at hV
                have H2 := Aside0.mk hV
                clear hblk hm hV hbl2 hDl hfin
                go_wp2_with fail
                go_roundg (n - b2)
                case measure => have := Hb2.out; omega
                case rel => exact ⟨b2, rfl, by have := Hb2.out; omega, Nat.le_refl _, by have := Hb2.out; omega, H2⟩
        · have q1 : ¬ (bs : Int) < n := by omega
          go_wp2_with fail
          go_end0
          refine ⟨rfl, ?_⟩
          have h1 := HW.out
          rw [allB_one _ _ (by omega) D (by have := HD.out; have := Hn.out; omega)] at h1
          exact h1
end
end Go.Proofs.Ythfkjejjndgajaa

/- A row of packs of the call's own put in order (slices.SortStableFunc), told in the words of owned rows. -/
namespace Go.Proofs.Ythfkjejjndgajaa
open Go.RowKit Go.Proofs.YthfkjejjndgajaaW.PrintWords Go.Sort Go.Lib Go.Shelf
open Go.Proofs (SWK RowK)
open Rq (mrg isort Up)

/-- The kind of a pack: its two cells; where its numbers lie is a part of what it is. -/
def kPg : Kd Pg where
  sz := 2
  E := []
  K := fun _ x cs => cs = encP x
  M := fun _ _ _ x cs => cs = encP x
  K_len := fun h => by rw [h]; rfl
  K_one := fun h u hu => by rw [h] at hu; exact encP_one _ u hu
  K_below := fun _ h => h
  K_of_M := fun h => h
  M_mono := fun _ h => h
  M_bound := fun h => h
  M_move := fun _ h => h
  M_lower := fun _ h => h
theorem kPg_heap : Kd.Heap kPg := ⟨fun _ h => h⟩

theorem flat_get (d : Array Pg) (j : Nat) (h : j < d.size * 2) : (flatK encP 2 d)[j]! = (encP d[j / 2]!)[j % 2]! := get_flatK encP 2 d j h

section
variable {W w' : World} {base g cap : Nat} {ok : Nat → Prop} {l : List Pg}
theorem own_parts (h : Kd.R kPg 146 W base ok (.slice (some ⟨g, 0, none⟩) l.length cap) l) :
    base ≤ g ∧ l.length ≤ cap ∧ cap ≤ maxLen ∧ ok g ∧ ∃ cur, W.heap[g]? = some (.cells cur 146 (0, 0)) ∧ cur.size = cap * 2 ∧ ∀ j p, l[j]? = some p → ∀ i u, (encP p)[i]? = some u → cur[j * 2 + i]? = some u := by
  obtain ⟨h0, inner, hown, hr⟩ := h
  rcases hown.2 with ⟨hv, hz⟩ | ⟨g', cap', cur, hv, hb, hh, hn, hm, hs, ht⟩
  · cases hv
  · injection hv with e1 e2 e3
    injection e1 with e1
    injection e1 with e1
    subst e1 e3
    refine ⟨hb, hn, hm, h0 g (by simp [Value.ownBlock]), cur, hh, hs, ?_⟩
    intro j p hj i u hu
    have h2 := hr.2 j p hj
    have hi : i < 2 := by have := (List.getElem?_eq_some_iff.1 hu).1; rw [encP_len] at this; exact this
    have hjl : j < l.length := (List.getElem?_eq_some_iff.1 hj).1
    have h2' : (inner.drop (j * 2)).take 2 = encP p := h2
    have ht' : cur.toList.take (l.length * 2) = inner := ht
    rw [← h2', List.getElem?_take, if_pos hi, List.getElem?_drop, ← ht', List.getElem?_take, if_pos (by omega), Array.getElem?_toList] at hu
    exact hu

theorem holds_of_own (h : Kd.R kPg 146 W base ok (.slice (some ⟨g, 0, none⟩) l.length cap) l) (_hp : 0 < l.length) : RowP W g 0 l.toArray := by
  obtain ⟨hb, hn, hm, hok, cur, hh, hs, hc⟩ := own_parts h
  refine ⟨encP_len, encP_one, ?_, blk_lt hh⟩
  intro j hj
  have hj2 : j < l.length * 2 := by simpa using hj
  refine ⟨?_, by simp [World.frozen?, hh]⟩
  have hjl : j / 2 < l.length := by omega
  have h1 : l[j / 2]? = some (l[j / 2]) := List.getElem?_eq_getElem hjl
  have h2 : l.toArray[j / 2]! = l[j / 2] := arr_at h1
  rw [flat_get _ _ (by simpa using hj), h2]
  have hm2 : j % 2 < (encP l[j / 2]).length := by rw [encP_len]; omega
  have h3 := hc (j / 2) _ h1 (j % 2) _ (List.getElem?_eq_getElem hm2)
  rw [show j / 2 * 2 + j % 2 = j by omega] at h3
  have e : W.cell? ⟨g, 0 + j, none⟩ = cur[j]? := by rw [Nat.zero_add]; exact cell_of_row W g j cur _ _ hh
  rw [e, h3, getElem!_pos (encP l[j / 2]) (j % 2) hm2]
  rfl

theorem swp_start (R : RowP W g 0 l.toArray) : SWP W g 0 l.toArray W := SWK.start R.hH

theorem blk_of_swp {d : Array Pg} {cur : Array Value} {t : Nat} {fr : Nat × Nat} (h : SWP W g 0 d w') (hh : W.heap[g]? = some (.cells cur t fr)) : ∃ cur', w'.heap[g]? = some (.cells cur' t fr) ∧ cur'.size = cur.size := by
  obtain ⟨n, os, rfl⟩ := h
  have hlt := blk_lt hh
  have e : (sortWorldK encP 2 W g 0 n d os).heap[g]? = (putRowK encP 2 (Sort.ahead W n) g 0 d).heap[g]? := by
    unfold sortWorldK
    exact heap_grow_old _ _ (by rw [size_putRowK]; exact hlt)
  rw [e]
  unfold putRowK putRow mapBlock
  refine ⟨putCells id 0 (flatK encP 2 d) cur, ?_, by unfold putCells; simp⟩
  show (W.heap.modify g _)[g]? = _
  rw [Array.getElem?_modify, if_pos rfl, hh]
  rfl

theorem fr_of_swp {d : Array Pg} {cur : Array Value} (h : SWP W g 0 d w') (hh : W.heap[g]? = some (.cells cur 146 (0, 0))) (hb : base ≤ g) : FrT base [146] W w' := by
  have hle : W.heap.size ≤ w'.heap.size := SWK.le h
  obtain ⟨n, os, rfl⟩ := h
  refine ⟨rfl, rfl, rfl, hle, ?_⟩
  intro k hk hn
  have hne : k ≠ g := by
    rintro rfl
    exact hn hb (OnT.of_blk hh (by simp))
  unfold sortWorldK
  rw [heap_grow_old _ _ (by rw [size_putRowK]; exact hk)]
  unfold putRowK putRow mapBlock
  show (W.heap.modify g _)[k]? = _
  rw [Array.getElem?_modify, if_neg (fun e => hne e.symm)]

theorem own_of_swp {l' : List Pg} (h : Kd.R kPg 146 W base ok (.slice (some ⟨g, 0, none⟩) l.length cap) l) (_hp : 0 < l.length) (R : RowP W g 0 l.toArray) (hs : SWP W g 0 l'.toArray w') (hl : l'.length = l.length) :
    Kd.R kPg 146 w' base ok (.slice (some ⟨g, 0, none⟩) l.length cap) l' := by
  obtain ⟨hb, hn, hm, hok, cur, hh, hsz, hc⟩ := own_parts h
  obtain ⟨cur', hh', hsz'⟩ := blk_of_swp hs hh
  have hH := SWK.holds hs R.hblk R.hH (by simpa using hl)
  have hl2 : l'.length ≤ cap := by omega
  refine ⟨fun k hk => by have : g = k := by simpa [Value.ownBlock] using hk
                         subst this; exact hok, cur'.toList.take (l'.length * 2), ⟨?_, .inr ⟨g, cap, cur', by rw [hl], hb, hh', by omega, hm, by rw [hsz', hsz]; rfl, rfl⟩⟩, ?_, ?_⟩
  · show _ = l'.length * 2
    rw [List.length_take, show cur'.toList.length = cur'.size from Array.length_toList, hsz', hsz]; omega
  · show _ = l'.length * 2
    rw [List.length_take, show cur'.toList.length = cur'.size from Array.length_toList, hsz', hsz]; omega
  · intro j p hj
    have hjl : j < l'.length := (List.getElem?_eq_some_iff.1 hj).1
    have hd : l'.toArray[j]! = p := arr_at hj
    have key : ∀ i, i < 2 → cur'[j * 2 + i]? = (encP p)[i]? := by
      intro i hi
      have h1 := (hH (j * 2 + i) (by simp; omega)).1
      rw [flat_get _ _ (by simp; omega), show (j * 2 + i) / 2 = j by omega, show (j * 2 + i) % 2 = i by omega, hd] at h1
      have e : w'.cell? ⟨g, 0 + (j * 2 + i), none⟩ = cur'[j * 2 + i]? := by rw [Nat.zero_add]; exact cell_of_row w' g _ cur' _ _ hh'
      rw [e] at h1
      rw [h1]
      have hi2 : i < (encP p).length := by rw [encP_len]; exact hi
      rw [getElem!_pos (encP p) i hi2, List.getElem?_eq_getElem hi2]; rfl
    show ((cur'.toList.take (l'.length * 2)).drop (j * 2)).take 2 = encP p
    apply List.ext_getElem?
    intro i
    rcases Nat.lt_or_ge i 2 with hi | hi
    · rw [List.getElem?_take, if_pos hi, List.getElem?_drop, List.getElem?_take, if_pos (by omega), Array.getElem?_toList, key i hi]
    · rw [List.getElem?_take, if_neg (by omega), List.getElem?_eq_none (by rw [encP_len]; exact hi)]

set_option maxHeartbeats 400000 in
theorem sortStable_calls (h : Kd.R kPg 146 W base ok (.slice (some ⟨g, 0, none⟩) l.length cap) l) (hp : 0 < l.length) (hl : Light l) (hbig : l.length ≤ 1000000) :
    Calls Try.prog 89 #[.slice (some ⟨g, 0, none⟩) l.length cap, cmpF] W fun e w' => e = .returned (.tuple #[]) ∧
      Kd.R kPg 146 w' base ok (.slice (some ⟨g, 0, none⟩) l.length cap) (isort Pg.w l) ∧ FrT base [146] W w' := by
  have R := holds_of_own h hp
  have HO := Aside0.mk (And.intro h (And.intro R (own_parts h)))
  have hsz : l.toArray.size = l.length := by simp
  have HS := Aside0.mk (stable_calls (cap := cap) R l (by simp) (by rw [hsz]; exact hbig) hl (swp_start R) (l.length : Nat) (by simp))
  rw [hsz] at HS
  have hbl : l.length ≤ 1000000 := hbig
  clear h R hsz hl hbig
  go_enter Try.func89, Try.ntmps89
  go_wp2_with fail
  refine HS.out.mono ?_
  rintro e w1 ⟨rfl, hsw⟩
  have H1 := Aside0.mk hsw
  clear hsw
  go_wp2_with fail
  go_end0
  obtain ⟨hb, hn, hm, hok, cur, hh, hs, hc⟩ := HO.out.2.2
  exact ⟨rfl, own_of_swp HO.out.1 hp HO.out.2.1 H1.out (Rq.isort_length _ _), fr_of_swp H1.out hh hb⟩

set_option maxHeartbeats 400000 in
theorem rising_calls (h : Kd.R kPg 146 W base ok (.slice (some ⟨g, 0, none⟩) l.length cap) l) (hp : 0 < l.length) (hl : Light l) (hbig : l.length ≤ 1000000) :
    Calls Try.prog 88 #[.slice (some ⟨g, 0, none⟩) l.length cap] W fun e w' => e = .returned (.slice (some ⟨g, 0, none⟩) l.length cap) ∧
      Kd.R kPg 146 w' base ok (.slice (some ⟨g, 0, none⟩) l.length cap) (isort Pg.w l) ∧ FrT base [146] W w' := by
  have HS := Aside0.mk (sortStable_calls h hp hl hbig)
  clear h hl
  go_enter Try.func88, Try.ntmps88
  go_wp2_with fail
  refine HS.out.mono ?_
  rintro e w1 ⟨rfl, h1, h2⟩
  have H1 := Aside0.mk (And.intro h1 h2)
  clear h1 h2
  go_wp2_with fail
  go_ret
  exact ⟨rfl, H1.out.1, H1.out.2⟩
end
end Go.Proofs.Ythfkjejjndgajaa

/- slices.Clone of numbers and of packs. -/
namespace Go.Proofs.Ythfkjejjndgajaa
open Go.RowKit Go.Proofs.YthfkjejjndgajaaW.PrintWords

theorem info_int : (Try.prog.info? 3).map (fun i => (i.zero, i.size, i.bytes)) = some (some (.int .i64 0), 1, 8) := by kernel_rfl
theorem info_pk : (Try.prog.info? 146).map (fun i => (i.zero, i.size, i.bytes)) = some (some (.agg #[.int .i64 0, .slice none 0 0]), 2, 32) := by kernel_rfl

/-- An empty row that has just been made. -/
theorem R_empty {α : Type} (d : Kd α) (e : Nat) (w : World) (base : Nat) (hb : base ≤ w.heap.size) : d.R e (w.alloc (.cells #[] e)) base (fun _ => True) (.slice (some ⟨w.heap.size, 0, none⟩) 0 0) [] := by
  refine ⟨fun _ _ => trivial, [], ?_, Reps.none _ _⟩
  exact ⟨by simp, .inr ⟨w.heap.size, 0, #[], rfl, hb, heap_alloc_new w _, Nat.le_refl _, by unfold maxLen; omega, by simp, by simp⟩⟩

set_option maxHeartbeats 400000 in
theorem cloneI_calls {w : World} {A : Option Addr} {n c : Nat} {xs : List Int} (hr : Kd.C (Kd.int .i64) w A n xs) (hn : n ≤ 1000000) :
    Calls Try.prog 107 #[.slice A n c] w fun e w' => ∃ v, e = .returned v ∧ Kd.R (Kd.int .i64) 3 w' w.heap.size (fun _ => True) v xs ∧ Below w.heap.size w w' := by
  have HC := Aside0.mk hr
  clear hr
  have heq := fun (W : World) => run_eql_slice_nil (P := Try.prog) W 30 3 A n c Try.underlying30
  cases A with
  | none =>
    have hxs : xs = [] := by
      rcases Nat.eq_zero_or_pos n with h0 | h0
      · exact List.eq_nil_of_length_eq_zero (by have := HC.out.1; omega)
      · obtain ⟨ad, h, _⟩ := HC.out.2.2 h0; cases h
    go_enter Try.func107, Try.ntmps107
    go_wp2_with fail
    go_ret
    exact ⟨_, rfl, by rw [hxs]; exact Kd.R_nil _ _ _ _ _, Below.refl _ _⟩
  | some ad =>
    have hlen := Aside0.mk HC.out.1
    go_enter Try.func107, Try.ntmps107
    go_wp2_with (first
      | (at_builtin
         go_must (refine Kd.R_append_rows (Kd.int .i64) (w0 := w) w.heap.size rfl (.tmp 5) (.tmp 6) 30 3 (.int .i64 0) 8 rfl Try.underlying30 info_int rfl (by decide) (by decide) _ [] xs (some ad) n c (fun _ => True) (fun _ => False) rfl rfl (R_empty _ _ w _ (Nat.le_refl _)) (HC.out.imp_ (below_alloc (Below.refl _ _) _) (fun _ _ h => h)) (fun x cs h => h) (fun _ h => h.elim) (fun _ _ => trivial) (below_alloc (Below.refl _ _) _) (by simp) (by simp; omega) ?_)
         intro v1 w1 HO1 HB1 hg1 hat1))
    go_ret
    exact ⟨v1, rfl, by simpa using HO1, HB1⟩
set_option maxHeartbeats 400000 in
theorem clonePk_calls {w : World} {A : Option Addr} {n c : Nat} {xs : List Pg} (hr : Kd.C kPg w A n xs) (hn : n ≤ 1000000) :
    Calls Try.prog 91 #[.slice A n c] w fun e w' => ∃ v, e = .returned v ∧ Kd.R kPg 146 w' w.heap.size (fun _ => True) v xs ∧ Below w.heap.size w w' := by
  have HC := Aside0.mk hr
  clear hr
  have heq := fun (W : World) => run_eql_slice_nil (P := Try.prog) W 144 146 A n c Try.underlying144
  cases A with
  | none =>
    have hxs : xs = [] := by
      rcases Nat.eq_zero_or_pos n with h0 | h0
      · exact List.eq_nil_of_length_eq_zero (by have := HC.out.1; omega)
      · obtain ⟨ad, h, _⟩ := HC.out.2.2 h0; cases h
    go_enter Try.func91, Try.ntmps91
    go_wp2_with fail
    go_ret
    exact ⟨_, rfl, by rw [hxs]; exact Kd.R_nil _ _ _ _ _, Below.refl _ _⟩
  | some ad =>
    have hlen := Aside0.mk HC.out.1
    go_enter Try.func91, Try.ntmps91
    go_wp2_with (first
      | (at_builtin
         go_must (refine Kd.R_append_rows kPg (w0 := w) w.heap.size rfl (.tmp 5) (.tmp 6) 144 146 (.agg #[.int .i64 0, .slice none 0 0]) 32 rfl Try.underlying144 info_pk rfl (by decide) (by decide) _ [] xs (some ad) n c (fun _ => True) (fun _ => False) rfl rfl (R_empty _ _ w _ (Nat.le_refl _)) (HC.out.imp_ (below_alloc (Below.refl _ _) _) (fun _ _ h => h)) (fun x cs h => h) (fun _ h => h.elim) (fun _ _ => trivial) (below_alloc (Below.refl _ _) _) (by simp) (by simp; omega) ?_)
         intro v1 w1 HO1 HB1 hg1 hat1))
    go_ret
    exact ⟨v1, rfl, by simpa using HO1, HB1⟩
end Go.Proofs.Ythfkjejjndgajaa
