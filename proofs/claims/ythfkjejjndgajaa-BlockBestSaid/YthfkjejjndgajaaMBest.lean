/- MBest: Equal, Pack, Best, Packed, BlockBest. -/
import Derived.Test.YthfkjejjndgajaaMRow
import Derived.Test.YthfkjejjndgajaaPEqualx1
import Derived.Laws.Strings
import Derived.Test.YthfkjejjndgajaaOne
import Derived.Test.YthfkjejjndgajaaPlainA
import Derived.Lib.SlBytesConst
/- Bytes against bytes (bytes.Equal). -/
namespace Go.Proofs.Ythfkjejjndgajaa
open Go.RowKit Go.Proofs.YthfkjejjndgajaaW.PrintWords Go.Proofs.YthfkjejjndgajaaW.PrintLast Go.Proofs.YthfkjejjndgajaaW.PrintMore Go.Proofs.Ythfkjejjndgajaa.PEqual

theorem str_bn (a : List UInt8) : (strOfNums (bnums a)).toList = a := by
  rw [ByteArray.toList_eq, strOfNums_data]
  unfold bnums
  rw [List.map_map]
  conv => rhs; rw [← List.map_id a]
  apply List.map_congr_left
  intro x _
  simp
theorem equal_calls {w : World} {A0 A1 : Option Addr} {c0 c1 : Nat} {a b : List UInt8} (h0 : Kd.C (Kd.int .u8) w A0 a.length (bnums a)) (hc0 : a.length ≤ c0) (h1 : Kd.C (Kd.int .u8) w A1 b.length (bnums b)) (hc1 : b.length ≤ c1) :
    Calls Try.prog 11 #[.slice A0 a.length c0, .slice A1 b.length c1] w fun e w' => e = .returned (.bool (a == b)) ∧ Drawn0 w w' := by
  have h := bytes_Equal.calls A0 c0 (bnums a) A1 c1 (bnums b) _ w (by rw [bnums_length]; exact h0) (by rw [bnums_length]; exact hc0) (by rw [bnums_length]; exact h1) (by rw [bnums_length]; exact hc1) rfl
  rw [bnums_length, bnums_length, str_bn, str_bn] at h
  exact h
end Go.Proofs.Ythfkjejjndgajaa

/- Parts are packed (block.Pack), where they are right. -/
namespace Go.Proofs.Ythfkjejjndgajaa
open Go.RowKit Go.Proofs.YthfkjejjndgajaaW.PrintWords
open Rq (oneM packF packM)

/-- Rows of bytes, read. -/
abbrev kBs : Kd (List Int) := Kd.slice 5 (Kd.int .u8)
theorem part_at {w : World} {A : Option Addr} {m : Nat} {parts : List (List UInt8)} (h : Kd.C kBs w A m (parts.map bnums)) (i : Nat) (hi : i < m) :
    ∃ (ad : Addr) (b : List UInt8) (Ab : Option Addr) (cb : Nat), A = some ad ∧ parts[i]? = some b ∧ w.cell? (ad.add i) = some (.slice Ab b.length cb) ∧ b.length ≤ cb ∧ Kd.C (Kd.int .u8) w Ab b.length (bnums b) := by
  have hl : i < parts.length := by have := h.1; rw [List.length_map] at this; omega
  obtain ⟨ad, c, e, _, hK, hc⟩ := Kd.C_get h [] (i : Int) (by omega) (by omega)
  rw [Int.toNat_natCast] at hK hc
  have e2 : (parts.map bnums).getD i [] = bnums parts[i] := by
    rw [List.getD_eq_getElem?_getD, List.getElem?_map, List.getElem?_eq_getElem hl]; rfl
  rw [e2] at hK
  obtain ⟨Ab, cb, rfl, hlb, hC⟩ := hK
  rw [bnums_length] at hlb hC
  have h0 := hc 0 _ rfl
  rw [bnums_length] at h0
  refine ⟨ad, parts[i], Ab, cb, e, List.getElem?_eq_getElem hl, ?_, hlb, hC⟩
  have e3 : i * kBs.sz + 0 = i := by show i * 1 + 0 = i; omega
  rw [e3] at h0
  exact h0
theorem flat_take (parts : List (List UInt8)) (q : Nat) (b : List UInt8) (h : parts[q]? = some b) : (parts.take (q + 1)).flatten.length = (parts.take q).flatten.length + b.length := by
  rw [List.take_add_one, h, Option.toList_some, List.flatten_append]; simp
theorem flat_take_le (parts : List (List UInt8)) (q : Nat) : (parts.take q).flatten.length ≤ parts.flatten.length := by
  conv => rhs; rw [← List.take_append_drop q parts, List.flatten_append, List.length_append]
  omega
theorem IsRow.made (w : World) : IsRow (w.alloc (.cells #[.slice none 0 0, .int .i64 0] 45)) w.heap.size w.heap.size (.slice none 0 0) [] :=
  ⟨Nat.le_refl _, heap_alloc_new w _, Kd.R_nil _ _ _ _ _⟩

set_option maxHeartbeats 2000000 in
set_option maxRecDepth 100000 in
theorem pack_calls {w : World} {AP AK : Option Addr} {cP cK m : Nat} {parts : List (List UInt8)} {kinds : List Nat} (hP : Kd.C kBs w AP m (parts.map bnums)) (hK : Kd.C (Kd.int .i64) w AK m (nn kinds))
    (h0 : 0 < m) (h40 : m ≤ 40) (hk2 : ∀ k ∈ kinds, k ≤ 2) (h3 : parts.flatten.length ≤ 3000) :
    Calls Try.prog 10 #[.slice AP m cP, .slice AK m cK] w fun e w' => ∃ v, e = .returned (.tuple #[v, .int .i64 0]) ∧ Kd.R (Kd.int .u8) 5 w' w.heap.size (fun _ => True) v (bnums (packM parts kinds)) ∧ Below w.heap.size w w' := by
  have hm1 : parts.length = m := by have := hP.1; rw [List.length_map] at this; exact this
  have hm2 : kinds.length = m := by have := hK.1; rw [nn_length] at this; exact this
  have HC := Aside0.mk (And.intro hP (And.intro hK (And.intro hm1 (And.intro hm2 (And.intro hk2 h3)))))
  have h0' : ((m : Int) == 0) = false := by simp; omega
  clear hP hK hm1 hm2 hk2 h3
  go_enter Try.func10, Try.ntmps10
  go_wp2_with fail
  go_loop [6, 24] (fun v6 vk => ∃ q s : Nat, vk = .int .i64 q ∧ q ≤ m ∧ v6 = .int .i64 s ∧ s ≤ 3000 ∧ Aside0 (s = (parts.take q).flatten.length)) (fun _ vk => m - (intOf vk).toNat)
  case atStart => exact ⟨0, 0, rfl, Nat.zero_le _, rfl, by decide, ⟨rfl⟩⟩
  case round =>
    obtain ⟨q, s, rfl, hq, rfl, hs, HS⟩ := hrel
    by_cases hlt : q < m
    · have x1 : (q : Int) < m := by omega
      obtain ⟨ad, b, Ab, cb, hA, hb, hcell, hlb, hCb⟩ := part_at HC.out.1 q hlt
      cases hA
      obtain ⟨adk, hAk, hck⟩ := Kd.at_int HC.out.2.1 (q : Int) (by omega) (by omega)
      cases hAk
      rw [rd_nn, Int.toNat_natCast] at hck
      have hkk := Rq.getD_le kinds 2 q HC.out.2.2.2.2.1
      obtain ⟨kd, hkd⟩ : ∃ kd, kd = kinds.getD q 0 := ⟨_, rfl⟩
      rw [← hkd] at hck hkk
      have hft := flat_take parts q b hb
      have hfl := flat_take_le parts (q + 1)
      have hf3 := HC.out.2.2.2.2.2
      have hsum : s + b.length ≤ 3000 := by have := HS.out; omega
      have hsum2 : s + b.length = (parts.take (q + 1)).flatten.length := by have := HS.out; omega
      obtain ⟨bl, hbl⟩ : ∃ bl, bl = b.length := ⟨_, rfl⟩
      rw [← hbl] at hcell hsum hsum2
      have HQ := Aside0.mk hsum2
      clear hft hfl hf3 hsum2 hb hlb hCb hkd hbl
      have x2 : ¬ (3000 : Int) < (s : Int) + bl := by omega
      have x3 : ¬ (40 : Int) ≤ q := by omega
      have x4 : ¬ (kd : Int) < 0 := by omega
      have x5 : ¬ (2 : Int) < kd := by omega
      go_wp2_with fail
      go_round
      case rel => exact ⟨q + 1, s + bl, by go_num, by omega, by go_num, hsum, HQ⟩
      case measure => simp [intOf]; omega
    · have x1 : ¬ (q : Int) < m := by omega
      clear HS
      go_wp2_with fail
      clear hs x1
      have hI0 := IsRow.made w
      generalize hW0 : World.alloc _ _ = W0 at hI0 ⊢
      have hB0 : Below w.heap.size w W0 := by rw [← hW0]; exact below_alloc (Below.refl _ _) _
      have H0 := Aside0.mk (And.intro hI0 hB0)
      clear hI0 hB0 hW0
      have hz : (parts.zip kinds).length = m := by rw [List.length_zip, HC.out.2.2.1, HC.out.2.2.2.1, Nat.min_self]
      have HZ := Aside0.mk hz
      clear hz
      go_loopw [54] (fun vk wr => ∃ (u : Nat) (vr : Value), vk = .int .i64 u ∧ u ≤ m ∧ Aside0 (∃ bs : List Bool, IsRow wr w.heap.size w.heap.size vr bs ∧ FrT w.heap.size [5, 45] w wr ∧ packF bs ((parts.zip kinds).drop u) = packF [] (parts.zip kinds) ∧ bs.length ≤ (parts.take u).flatten.length * 60 + u * 7300)) (fun vk _ => m - (intOf vk).toNat)
      case atStart => exact ⟨0, _, rfl, Nat.zero_le _, ⟨[], H0.out.1, FrT.of_below H0.out.2 _ _, rfl, by simp⟩⟩
      case round =>
        obtain ⟨u, vr, rfl, hu, ⟨⟨bs, hrow, hfr, hpk, hlen⟩⟩⟩ := hrel
        by_cases hlt2 : u < m
        · have x1 : (u : Int) < m := by omega
          have hbw := hfr.to_below0
          obtain ⟨ad, b, Ab, cb, hA, hb, hcell, hlb, hCb⟩ := part_at HC.out.1 u hlt2
          cases hA
          obtain ⟨adk, hAk, hck⟩ := Kd.at_int HC.out.2.1 (u : Int) (by omega) (by omega)
          cases hAk
          rw [rd_nn, Int.toNat_natCast] at hck
          have hcell2 := pw_cell_below hbw hcell
          have hck2 := pw_cell_below hbw hck
          have hkk := Rq.getD_le kinds 2 u HC.out.2.2.2.2.1
          obtain ⟨kd, hkd⟩ : ∃ kd, kd = kinds.getD u 0 := ⟨_, rfl⟩
          rw [← hkd] at hck2 hkk
          have hft := flat_take parts u b hb
          have hfl := flat_take_le parts (u + 1)
          have hfl0 := flat_take_le parts u
          have hf3 := HC.out.2.2.2.2.2
          have hb3 : b.length ≤ 3000 := by omega
          have hbs : bs.length ≤ 600000 := by omega
          have hdrop : (parts.zip kinds).drop u = (b, kd) :: (parts.zip kinds).drop (u + 1) := by
            have h1 : u < (parts.zip kinds).length := by have := HZ.out; omega
            rw [List.drop_eq_getElem_cons h1, List.getElem_zip]
            have hp1 : u < parts.length := by have := HC.out.2.2.1; omega
            have hp2 : u < kinds.length := by have := HC.out.2.2.2.1; omega
            have e1 : parts[u] = b := by rw [List.getElem?_eq_getElem hp1] at hb; injection hb
            have e2 : kinds[u] = kd := by rw [hkd, List.getD_eq_getElem?_getD, List.getElem?_eq_getElem hp2]; rfl
            rw [e1, e2]
          obtain ⟨la, hla⟩ : ∃ la : Bool, la = ((parts.zip kinds).drop (u + 1)).isEmpty := ⟨_, rfl⟩
          have hlast : ((u : Int) == (m : Int) - 1) = la := by
            rw [hla, Bool.eq_iff_iff, List.isEmpty_iff, List.drop_eq_nil_iff, HZ.out]
            simp
            omega
          have hpk2 : packF (oneM bs b kd la) ((parts.zip kinds).drop (u + 1)) = packF [] (parts.zip kinds) := by rw [hla, ← hpk, hdrop, packF]
          have hol := Rq.oneM_len bs b kd la
          have HO := Aside0.mk (one_calls hrow hfr.size (Rd.of_came (w0 := w) (E := [5, 45]) (Kd.heap_int .u8) hCb hbw) hlb hb3 kd (kd : Int) rfl hkk la hbs)
          obtain ⟨bl, hbl⟩ : ∃ bl, bl = b.length := ⟨_, rfl⟩
          rw [← hbl] at hcell2 HO
          have HQ := Aside0.mk (And.intro hpk2 (show (oneM bs b kd la).length ≤ (parts.take (u + 1)).flatten.length * 60 + (u + 1) * 7300 by rw [hft, Nat.add_mul, Nat.add_mul]; omega))
          have HF := Aside0.mk hfr
          have HLa := Aside0.mk hlast
          clear hbw hb hcell hlb hCb hck hkd hft hfl hfl0 hf3 hb3 hbs hdrop hla hlast hpk2 hol hbl hrow hfr hpk hlen
          cases la
          all_goals
            have hla2 := HLa.out
            go_wp2_with fail
            refine HO.out.mono ?_
            clear HO
            rintro e w1 ⟨rfl, v1, hrow1, hfr1⟩
            have H1 := Aside0.mk (And.intro hrow1 (HF.out.trans hfr1))
            clear hrow1 hfr1
            go_wp2_with fail
            go_roundw
            case rel => exact ⟨u + 1, v1, by go_num, by omega, ⟨_, H1.out.1, H1.out.2, HQ.out.1, HQ.out.2⟩⟩
            case measure => simp [intOf]; omega
        · have x1 : ¬ (u : Int) < m := by omega
          obtain rfl : u = m := by omega
          have hpe : bs = packF [] (parts.zip kinds) := by
            rw [List.drop_eq_nil_of_le (by have := HZ.out; omega)] at hpk
            exact hpk
          have HB := Aside0.mk (rowBytes_calls hrow)
          have HE := Aside0.mk (And.intro hrow.own (And.intro hfr.to_below0 hpe))
          clear hrow hfr hpk hlen hpe
          go_wp2_with fail
          refine HB.out.mono ?_
          clear HB
          rintro e w1 ⟨rfl, rfl⟩
          go_wp2_with fail
          go_ret2
          refine ⟨_, rfl, ?_, HE.out.2.1⟩
          have h1 := HE.out.1
          rw [HE.out.2.2] at h1
          exact h1
end Go.Proofs.Ythfkjejjndgajaa

/- The shortest block (block.Best). -/
namespace Go.Proofs.Ythfkjejjndgajaa
open Go.RowKit Go.Proofs.YthfkjejjndgajaaW.PrintWords
open Rq (packM)

/-- The best of the kinds below k. -/
def bestTo (b : List UInt8) : Nat → List UInt8 × Nat
  | 0 => ([], 0)
  | k + 1 => if k = 0 ∨ (packM [b] [k]).length < (bestTo b k).1.length then (packM [b] [k], k) else bestTo b k
theorem bestTo_le (b : List UInt8) : ∀ k, (bestTo b (k + 1)).2 ≤ k
  | 0 => by rw [bestTo, if_pos (.inl rfl)]; exact Nat.le_refl _
  | k + 1 => by
    have ih := bestTo_le b k
    rw [bestTo]
    split
    · exact Nat.le_refl _
    · omega
/-- A row of one row of bytes, a row of one number. -/
theorem C_one_row {W : World} {g t : Nat} {fr : Nat × Nat} {A : Option Addr} {c : Nat} {b : List UInt8} (hb : W.heap[g]? = some (.cells #[.slice A b.length c] t fr)) (hC : Kd.C (Kd.int .u8) W A b.length (bnums b)) (hc : b.length ≤ c) :
    Kd.C kBs W (some ⟨g, 0, none⟩) 1 ([b].map bnums) := by
  refine ⟨rfl, by decide, fun _ => ⟨_, rfl, fun j p hp => ?_⟩⟩
  have hj : j = 0 := by
    have := (List.getElem?_eq_some_iff.1 hp).1
    simp at this; omega
  subst hj
  simp at hp
  subst hp
  refine ⟨[.slice A b.length c], rfl, ⟨A, c, by rw [bnums_length], by rw [bnums_length]; exact hc, by rw [bnums_length]; exact hC⟩, fun i u hu => ?_⟩
  have hi : i = 0 := by
    have := (List.getElem?_eq_some_iff.1 hu).1
    simp at this; omega
  subst hi
  simp at hu
  subst hu
  simp [Addr.add, World.cell?, hb]
theorem C_one_num {W : World} {g t : Nat} {fr : Nat × Nat} {k : Nat} (hb : W.heap[g]? = some (.cells #[.int .i64 (k : Int)] t fr)) : Kd.C (Kd.int .i64) W (some ⟨g, 0, none⟩) 1 (nn [k]) := by
  refine Kd.C_of_reads (enc := Value.int .i64) (d := (0 : Int)) (h1 := fun _ => rfl) ⟨rfl, by decide, fun _ => ⟨_, rfl, fun j hj => ?_⟩⟩
  obtain rfl : j = 0 := by omega
  simp [Addr.add, World.cell?, hb, nn]
/-- One block, packed. -/
theorem packOne_calls {w : World} {A : Option Addr} {c : Nat} {b : List UInt8} (hr : Kd.C (Kd.int .u8) w A b.length (bnums b)) (hc : b.length ≤ c) (hn : b.length ≤ 3000) (k : Nat) (hk : k ≤ 2) (n : Nat) (hnd : n = b.length) :
    Calls Try.prog 10 #[.slice (some ⟨w.heap.size, 0, none⟩) 1 1, .slice (some ⟨w.heap.size + 1, 0, none⟩) 1 1] ((w.alloc (.cells #[.slice A n c] 22)).alloc (.cells #[.int .i64 (k : Int)] 3)) fun e w' =>
      ∃ v, e = .returned (.tuple #[v, .int .i64 0]) ∧ Kd.R (Kd.int .u8) 5 w' w.heap.size (fun _ => True) v (bnums (packM [b] [k])) ∧ Below w.heap.size w w' := by
  subst hnd
  have hB : Below w.heap.size w ((w.alloc (.cells #[.slice A b.length c] 22)).alloc (.cells #[.int .i64 (k : Int)] 3)) := below_alloc (below_alloc (Below.refl _ _) _) _
  have b1 : ((w.alloc (.cells #[.slice A b.length c] 22)).alloc (.cells #[.int .i64 (k : Int)] 3)).heap[w.heap.size]? = some (.cells #[.slice A b.length c] 22 (0, 0)) := blk_alloc (heap_alloc_new w _) _
  have b2 : ((w.alloc (.cells #[.slice A b.length c] 22)).alloc (.cells #[.int .i64 (k : Int)] 3)).heap[w.heap.size + 1]? = some (.cells #[.int .i64 (k : Int)] 3 (0, 0)) := by
    have h := heap_alloc_new (w.alloc (.cells #[.slice A b.length c] 22)) (.cells #[.int .i64 (k : Int)] 3)
    rw [show (w.alloc (.cells #[.slice A b.length c] 22)).heap.size = w.heap.size + 1 by simp] at h
    exact h
  refine (pack_calls (cP := 1) (cK := 1) (m := 1) (parts := [b]) (kinds := [k]) (C_one_row b1 (Kd.C_below hr hB) hc) (C_one_num b2) (by decide) (by decide) (by simpa using hk) (by simpa using hn)).mono ?_
  rintro e w' ⟨v, rfl, hR, hB2⟩
  exact ⟨v, rfl, Kd.R_lower hR hB.size, hB.trans (hB2.mono hB.size)⟩

set_option maxHeartbeats 2000000 in
set_option maxRecDepth 100000 in
theorem best_calls {w : World} {A : Option Addr} {c : Nat} {b : List UInt8} (hr : Kd.C (Kd.int .u8) w A b.length (bnums b)) (hc : b.length ≤ c) (hn : b.length ≤ 3000) :
    Calls Try.prog 8 #[.slice A b.length c] w fun e w' => ∃ v, e = .returned (.tuple #[v, .int .i64 ((bestTo b 3).2 : Int), .int .i64 0]) ∧ Kd.R (Kd.int .u8) 5 w' w.heap.size (fun _ => True) v (bnums (bestTo b 3).1) ∧ Below w.heap.size w w' := by
  obtain ⟨n, hnd⟩ : ∃ n, n = b.length := ⟨_, rfl⟩
  have HC := Aside0.mk (And.intro hr (And.intro hc (And.intro hn hnd)))
  rw [← hnd] at hn ⊢
  clear hr hc hnd
  have x0 : ¬ (3000 : Int) < n := by omega
  go_enter Try.func8, Try.ntmps8
  go_wp2_with fail
  go_loopw [2, 3, 5] (fun v2 v3 v5 wr => ∃ k kd : Nat, v5 = .int .i64 k ∧ k ≤ 3 ∧ v3 = .int .i64 kd ∧ Aside0 (kd = (bestTo b k).2 ∧ Kd.R (Kd.int .u8) 5 wr w.heap.size (fun _ => True) v2 (bnums (bestTo b k).1) ∧ Below w.heap.size w wr)) (fun _ _ v5 _ => 3 - (intOf v5).toNat)
  case atStart => exact ⟨0, 0, rfl, by decide, rfl, ⟨rfl, Kd.R_nil _ _ _ _ _, Below.refl _ _⟩⟩
  case round =>
    obtain ⟨k, kd, rfl, hk, rfl, HR⟩ := hrel
    obtain ⟨A2, c2, rfl⟩ := Kd.R_slice HR.out.2.1
    rw [bnums_length]
    obtain ⟨len2, hlen2⟩ : ∃ len2, len2 = (bestTo b k).1.length := ⟨_, rfl⟩
    have HLn := Aside0.mk hlen2
    have HR2 := Aside0.mk HR.out
    rw [bnums_length, ← hlen2] at HR2
    rw [← hlen2]
    clear HR hlen2
    by_cases hlt : k < 3
    · have x1 : (k : Int) ≤ 2 := by omega
      have HP := Aside0.mk (packOne_calls (w := wr) (A := A) (c := c) (b := b) (Kd.C_below HC.out.1 HR2.out.2.2) HC.out.2.1 HC.out.2.2.1 k (by omega) n HC.out.2.2.2)
      go_wp2_with fail
      refine HP.out.mono ?_
      clear HP
      rintro e w1 ⟨v1, rfl, hR1, hB1⟩
      obtain ⟨A1, c1, rfl⟩ := Kd.R_slice hR1
      rw [bnums_length]
      obtain ⟨len1, hlen1⟩ : ∃ len1, len1 = (packM [b] [k]).length := ⟨_, rfl⟩
      rw [bnums_length, ← hlen1] at hR1
      rw [← hlen1]
      have H1 := Aside0.mk (And.intro (Kd.R_lower hR1 HR2.out.2.2.size) (And.intro (HR2.out.2.2.trans (hB1.mono HR2.out.2.2.size)) (And.intro hlen1 (Kd.R_below HR2.out.2.1 hB1))))
      clear hR1 hB1 hlen1
      by_cases hk0 : k = 0
      · subst hk0
        go_wp2_with fail
        go_roundw
        case rel =>
          have e : bestTo b (0 + 1) = (packM [b] [0], 0) := by rw [bestTo, if_pos (.inl rfl)]
          exact ⟨1, 0, by go_num, by omega, rfl, ⟨by rw [e], by rw [e]; exact H1.out.1, H1.out.2.1⟩⟩
        case measure => simp [intOf]
      · have x2 : ((k : Int) == 0) = false := by simp; omega
        by_cases hls : len1 < len2
        · have x3 : (len1 : Int) < len2 := by omega
          go_wp2_with fail
          go_roundw
          case rel =>
            have e : bestTo b (k + 1) = (packM [b] [k], k) := by rw [bestTo, if_pos (.inr (by rw [← H1.out.2.2.1, ← HLn.out]; exact hls))]
            exact ⟨k + 1, k, by go_num, by omega, rfl, ⟨by rw [e], by rw [e]; exact H1.out.1, H1.out.2.1⟩⟩
          case measure => simp [intOf]; omega
        · have x3 : ¬ (len1 : Int) < len2 := by omega
          go_wp2_with fail
          go_roundw
          case rel =>
            have e : bestTo b (k + 1) = bestTo b k := by rw [bestTo, if_neg (fun h => by rcases h with h | h; exact hk0 h; rw [← H1.out.2.2.1, ← HLn.out] at h; exact hls h)]
            exact ⟨k + 1, kd, by go_num, by omega, rfl, ⟨by rw [e]; exact HR2.out.1, by rw [e]; exact H1.out.2.2.2, H1.out.2.1⟩⟩
          case measure => simp [intOf]; omega
    · have x1 : ¬ (k : Int) ≤ 2 := by omega
      obtain rfl : k = 3 := by omega
      go_wp2_with fail
      go_ret3
      refine ⟨_, ?_, HR2.out.2.1, HR2.out.2.2⟩
      rw [← HR2.out.1]
      rfl
theorem best_many {w : World} {A : Option Addr} {c n : Nat} (hn : ¬ n ≤ 3000) (hm : n ≤ 9223372036854775807) :
    Calls Try.prog 8 #[.slice A n c] w fun e w' => e = .returned (.tuple #[.slice none 0 0, .int .i64 0, .int .i64 2]) ∧ w = w' := by
  have x0 : (3000 : Int) < n := by omega
  go_enter Try.func8, Try.ntmps8
  go_wp2_with fail
  go_ret3
  exact ⟨rfl, rfl⟩
end Go.Proofs.Ythfkjejjndgajaa

/- The closed fact: one block (reliquarylaw.packed). -/
namespace Go.Proofs.Ythfkjejjndgajaa
open Go.RowKit Go.Proofs.YthfkjejjndgajaaW.PrintWords
open Rq (packM)

theorem best_nil : bestTo [] 3 = ([3, 0], 1) := by
  have h1 : bestTo [] 1 = (packM [[]] [0], 0) := by rw [bestTo, if_pos (.inl rfl)]
  have h2 : bestTo [] 2 = (packM [[]] [1], 1) := by rw [bestTo, h1, Rq.packed_f, if_pos (.inr (by rw [Rq.packed_s]; decide))]
  rw [bestTo, h2, Rq.packed_f, if_neg (fun h => by rcases h with h | h; cases h; exact Rq.packed_d h)]
/-- A row of bytes that has just been made. -/
theorem C_bytes {W : World} {g t : Nat} {fr : Nat × Nat} {b : List UInt8} (hb : W.heap[g]? = some (.cells (nums .u8 (bnums b)).toArray t fr)) (hn : b.length ≤ 1000000) : Kd.C (Kd.int .u8) W (some ⟨g, 0, none⟩) b.length (bnums b) := by
  refine Kd.C_of_reads (enc := Value.int .u8) (d := (0 : Int)) (h1 := fun _ => rfl) ⟨bnums_length b, by omega, fun _ => ⟨_, rfl, fun j hj => ?_⟩⟩
  rw [add_plain]
  have hl : j < (bnums b).length := by rw [bnums_length]; exact hj
  simp [World.cell?, hb, nums, List.getD_eq_getElem?_getD, List.getElem?_eq_getElem hl]

set_option maxHeartbeats 2000000 in
set_option maxRecDepth 100000 in
theorem packed_calls (w : World) : Calls Try.prog 9 #[] w fun e w' => e = .returned (.bool true) ∧ Below w.heap.size w w' := by
  have kc := fun (w : World) (C : Array Value) (n c : Nat) => Lib.run_convert_bytes_const (P := Try.prog) w 22 5 C n c Try.underlying22 Try.underlying5
  go_enter Try.func9, Try.ntmps9
  go_wp2_with fail
  have hW1 : (w.alloc (.cells #[.int .u8 97, .int .u8 97] 5 (2, 3))).heap[w.heap.size]? = some (.cells (nums .u8 (bnums [97, 97])).toArray 5 (2, 3)) := heap_alloc_new w _
  have hB1 : Below w.heap.size w (w.alloc (.cells #[.int .u8 97, .int .u8 97] 5 (2, 3))) := below_alloc (Below.refl _ _) _
  have HP := packOne_calls (w := w.alloc (.cells #[.int .u8 97, .int .u8 97] 5 (2, 3))) (A := some ⟨w.heap.size, 0, none⟩) (c := 2) (b := [97, 97]) (C_bytes hW1 (by decide)) (by decide) (by decide) 0 (by decide) 2 rfl
  rw [show (w.alloc (.cells #[.int .u8 97, .int .u8 97] 5 (2, 3))).heap.size = w.heap.size + 1 by simp, show ((0 : Nat) : Int) = 0 from rfl] at HP
  refine HP.mono ?_
  clear HP
  rintro e w1 ⟨v1, rfl, hR1, hB2⟩
  have hB3 := hB1.trans (hB2.mono (Nat.le_succ _))
  obtain ⟨A1, c1, rfl⟩ := Kd.R_slice hR1
  rw [Rq.packed_aa] at hR1 ⊢
  have hl7 : (bnums [1, 2, 0, 0xfd, 0xff, 97, 97]).length = 7 := rfl
  rw [hl7] at hR1 ⊢
  clear hl7
  have H1 := Aside0.mk (And.intro (Kd.R_lower hR1 (Nat.le_succ _)) hB3)
  clear hW1 hB1 hB2 hB3 hR1
  have HBe := Aside0.mk (best_calls (w := w1) (A := none) (c := 0) (b := []) (Kd.C_nil _ _) (Nat.le_refl _) (by decide))
  rw [best_nil] at HBe
  go_wp2_with fail
  refine HBe.out.mono ?_
  clear HBe
  rintro e w2 ⟨v2, rfl, hR2, hB2⟩
  obtain ⟨A2, c2, rfl⟩ := Kd.R_slice hR2
  have hl2 : (bnums [3, 0]).length = 2 := rfl
  rw [hl2] at hR2 ⊢
  clear hl2
  have H2 := Aside0.mk (And.intro (Kd.R_lower hR2 H1.out.2.size) (And.intro (H1.out.2.trans (hB2.mono H1.out.2.size)) (Kd.R_below H1.out.1 hB2)))
  clear hR2 hB2
  go_wp2_with fail
  have hA := Kd.R_reads' H2.out.2.2
  have hB3 : Below w2.heap.size w2 (w2.alloc (.cells #[.int .u8 1, .int .u8 2, .int .u8 0, .int .u8 253, .int .u8 255, .int .u8 97, .int .u8 97] 5)) := below_alloc (Below.refl _ _) _
  have hE1 := equal_calls (a := [1, 2, 0, 0xfd, 0xff, 97, 97]) (b := [1, 2, 0, 0xfd, 0xff, 97, 97]) (c0 := c1) (c1 := 7) (Kd.C_below hA.2.2 hB3) hA.2.1 (C_bytes (g := w2.heap.size) (t := 5) (fr := (0, 0)) (heap_alloc_new w2 _) (by decide)) (by decide)
  refine hE1.mono ?_
  clear hE1
  rintro e w3 ⟨rfl, hD3⟩
  have H3 := Aside0.mk (And.intro (Kd.R_below (Kd.R_below H2.out.1 hB3) hD3.below) (H2.out.2.1.trans ((hB3.trans (hD3.below.mono hB3.size)).mono H2.out.2.1.size)))
  clear hA hB3 hD3
  have heq : (([1, 2, 0, 0xfd, 0xff, 97, 97] : List UInt8) == [1, 2, 0, 0xfd, 0xff, 97, 97]) = true := by decide
  rw [heq]
  clear heq
  go_wp2_with fail
  have hA := Kd.R_reads' H3.out.1
  have hB4 : Below w3.heap.size w3 (w3.alloc (.cells #[.int .u8 3, .int .u8 0] 5)) := below_alloc (Below.refl _ _) _
  have hE2 := equal_calls (a := [3, 0]) (b := [3, 0]) (c0 := c2) (c1 := 2) (Kd.C_below hA.2.2 hB4) hA.2.1 (C_bytes (g := w3.heap.size) (t := 5) (fr := (0, 0)) (heap_alloc_new w3 _) (by decide)) (by decide)
  refine hE2.mono ?_
  clear hE2
  rintro e w4 ⟨rfl, hD4⟩
  have H4 := Aside0.mk (H3.out.2.trans ((hB4.trans (hD4.below.mono hB4.size)).mono H3.out.2.size))
  clear hA hB4 hD4
  have heq : (([3, 0] : List UInt8) == [3, 0]) = true := by decide
  rw [heq]
  clear heq
  go_wp2_with fail
  go_ret
  exact ⟨rfl, H4.out⟩
end Go.Proofs.Ythfkjejjndgajaa

/- The law BlockBest, walked. -/
namespace Go.Proofs.Ythfkjejjndgajaa
open Go.RowKit Go.Proofs.YthfkjejjndgajaaW.PrintWords
open Rq (packM)

set_option maxHeartbeats 2000000 in
set_option maxRecDepth 100000 in
theorem bb_many {w : World} {A : Option Addr} {c n : Nat} (hn : ¬ n ≤ 3000) (hm : n ≤ 9223372036854775807) :
    Calls Try.prog 3 #[.slice A n c] w fun e w' => e = .returned (.bool true) ∧ Below w.heap.size w w' := by
  have x0 : (3000 : Int) < n := by omega
  go_enter Try.func3, Try.ntmps3
  go_wp2_with fail
  refine (best_many (w := w) (A := A) (c := c) (n := n) hn hm).mono ?_
  rintro e w1 ⟨rfl, rfl⟩
  go_wp2_with fail
  refine (packed_calls w).mono ?_
  rintro e w2 ⟨rfl, hB2⟩
  have H2 := Aside0.mk hB2
  clear hB2
  go_wp2_with fail
  refine (packed_calls w2).mono ?_
  rintro e w3 ⟨rfl, hB3⟩
  have H3 := Aside0.mk (H2.out.trans (hB3.mono H2.out.size))
  clear hB3
  go_wp2_with fail
  first
    | go_ret
    | skip
  exact ⟨rfl, H3.out⟩

set_option maxHeartbeats 2000000 in
set_option maxRecDepth 100000 in
theorem bb_few {w : World} {A : Option Addr} {c : Nat} {b : List UInt8} (hr : Kd.C (Kd.int .u8) w A b.length (bnums b)) (hc : b.length ≤ c) (hn : b.length ≤ 3000) :
    Calls Try.prog 3 #[.slice A b.length c] w fun e w' => e = .returned (.bool true) ∧ Below w.heap.size w w' := by
  obtain ⟨n, hnd⟩ : ∃ n, n = b.length := ⟨_, rfl⟩
  have HC := Aside0.mk (And.intro hr (And.intro hc (And.intro hn hnd)))
  have HBe := Aside0.mk (best_calls (w := w) (A := A) (c := c) (b := b) hr hc hn)
  have hbk := bestTo_le b 2
  obtain ⟨kb, hkb⟩ : ∃ kb, kb = (bestTo b 3).2 := ⟨_, rfl⟩
  rw [← hnd, ← hkb] at HBe
  rw [← hkb] at hbk
  rw [← hnd] at hn ⊢
  have HK := Aside0.mk hkb
  clear hr hc hnd hkb
  have x0 : ¬ (3000 : Int) < n := by omega
  go_enter Try.func3, Try.ntmps3
  go_wp2_with fail
  refine HBe.out.mono ?_
  clear HBe
  rintro e w1 ⟨vp, rfl, hRp, hB1⟩
  obtain ⟨Ap, cp, rfl⟩ := Kd.R_slice hRp
  rw [bnums_length]
  obtain ⟨lp, hlp⟩ : ∃ lp, lp = (bestTo b 3).1.length := ⟨_, rfl⟩
  rw [bnums_length, ← hlp] at hRp
  rw [← hlp]
  have H1 := Aside0.mk (And.intro hRp hB1)
  have HLp := Aside0.mk hlp
  clear hRp hB1 hlp
  go_wp2_with fail
  refine (packed_calls w1).mono ?_
  rintro e w2 ⟨rfl, hB2⟩
  have H2 := Aside0.mk (show Kd.R (Kd.int .u8) 5 w2 w.heap.size (fun _ => True) (.slice Ap lp cp) (bnums (bestTo b 3).1) ∧ Below w.heap.size w w2 from ⟨Kd.R_below H1.out.1 hB2, H1.out.2.trans (hB2.mono H1.out.2.size)⟩)
  clear hB2 H1
  go_wp2_with fail
  go_loopw [6, 7, 8] (fun v6 v7 v8 wr => ∃ k kd : Nat, v8 = .int .i64 k ∧ k ≤ 3 ∧ v6 = .int .i64 kd ∧ Aside0 (kd = (bestTo b k).2 ∧ Kd.R (Kd.int .u8) 5 wr w.heap.size (fun _ => True) v7 (bnums (bestTo b k).1) ∧ Below w.heap.size w wr ∧ Kd.R (Kd.int .u8) 5 wr w.heap.size (fun _ => True) (.slice Ap lp cp) (bnums (bestTo b 3).1))) (fun _ _ v8 _ => 3 - (intOf v8).toNat)
  case atStart => exact ⟨0, 0, rfl, by decide, rfl, ⟨rfl, Kd.R_nil _ _ _ _ _, H2.out.2, H2.out.1⟩⟩
  case round =>
    obtain ⟨k, kd, rfl, hk, rfl, HR⟩ := hrel
    obtain ⟨A2, c2, rfl⟩ := Kd.R_slice HR.out.2.1
    rw [bnums_length]
    obtain ⟨len2, hlen2⟩ : ∃ len2, len2 = (bestTo b k).1.length := ⟨_, rfl⟩
    have HLn := Aside0.mk hlen2
    have HR2 := Aside0.mk HR.out
    rw [bnums_length, ← hlen2] at HR2
    rw [← hlen2]
    clear HR hlen2
    by_cases hlt : k < 3
    · have x1 : (k : Int) ≤ 2 := by omega
      have HP := Aside0.mk (packOne_calls (w := wr) (A := A) (c := c) (b := b) (Kd.C_below HC.out.1 HR2.out.2.2.1) HC.out.2.1 HC.out.2.2.1 k (by omega) n HC.out.2.2.2)
      go_wp2_with fail
      refine HP.out.mono ?_
      clear HP
      rintro e w3 ⟨v1, rfl, hR1, hB1⟩
      obtain ⟨A1, c1, rfl⟩ := Kd.R_slice hR1
      rw [bnums_length]
      obtain ⟨len1, hlen1⟩ : ∃ len1, len1 = (packM [b] [k]).length := ⟨_, rfl⟩
      rw [bnums_length, ← hlen1] at hR1
      rw [← hlen1]
      have H3 := Aside0.mk (And.intro (Kd.R_lower hR1 HR2.out.2.2.1.size) (And.intro (HR2.out.2.2.1.trans (hB1.mono HR2.out.2.2.1.size)) (And.intro hlen1 (And.intro (Kd.R_below HR2.out.2.1 hB1) (Kd.R_below HR2.out.2.2.2 hB1)))))
      clear hR1 hB1 hlen1
      by_cases hk0 : k = 0
      · subst hk0
        go_wp2_with fail
        go_roundw
        case rel =>
          have e : bestTo b (0 + 1) = (packM [b] [0], 0) := by rw [bestTo, if_pos (.inl rfl)]
          exact ⟨1, 0, by go_num, by omega, rfl, ⟨by rw [e], by rw [e]; exact H3.out.1, H3.out.2.1, H3.out.2.2.2.2⟩⟩
        case measure => simp [intOf]
      · have x2 : ((k : Int) == 0) = false := by simp; omega
        by_cases hls : len1 < len2
        · have x3 : (len1 : Int) < len2 := by omega
          go_wp2_with fail
          go_roundw
          case rel =>
            have e : bestTo b (k + 1) = (packM [b] [k], k) := by rw [bestTo, if_pos (.inr (by rw [← H3.out.2.2.1, ← HLn.out]; exact hls))]
            exact ⟨k + 1, k, by go_num, by omega, rfl, ⟨by rw [e], by rw [e]; exact H3.out.1, H3.out.2.1, H3.out.2.2.2.2⟩⟩
          case measure => simp [intOf]; omega
        · have x3 : ¬ (len1 : Int) < len2 := by omega
          go_wp2_with fail
          go_roundw
          case rel =>
            have e : bestTo b (k + 1) = bestTo b k := by rw [bestTo, if_neg (fun h => by rcases h with h | h; exact hk0 h; rw [← H3.out.2.2.1, ← HLn.out] at h; exact hls h)]
            exact ⟨k + 1, kd, by go_num, by omega, rfl, ⟨by rw [e]; exact HR2.out.1, by rw [e]; exact H3.out.2.2.2.1, H3.out.2.1, H3.out.2.2.2.2⟩⟩
          case measure => simp [intOf]; omega
    · have x1 : ¬ (k : Int) ≤ 2 := by omega
      obtain rfl : k = 3 := by omega
      have hkd : kd = kb := by rw [HR2.out.1, HK.out]
      subst hkd
      have h1 := Kd.R_reads' HR2.out.2.2.2
      have h2 := Kd.R_reads' HR2.out.2.1
      rw [bnums_length] at h1 h2
      have hE := equal_calls (a := (bestTo b 3).1) (b := (bestTo b 3).1) (c0 := cp) (c1 := c2) h1.2.2 (by rw [← HLp.out]; exact h1.2.1) h2.2.2 (by rw [← HLn.out]; exact h2.2.1)
      rw [← HLp.out] at hE
      have hll : len2 = lp := by rw [HLn.out, HLp.out]
      subst hll
      have heq : ((bestTo b 3).1 == (bestTo b 3).1) = true := by simp
      rw [heq] at hE
      have HE := Aside0.mk hE
      clear h1 h2 hE heq
      go_wp2_with fail
      refine HE.out.mono ?_
      clear HE
      rintro e w3 ⟨rfl, hD⟩
      have H3 := Aside0.mk (HR2.out.2.2.1.trans (hD.below.mono HR2.out.2.2.1.size))
      clear hD
      go_wp2_with fail
      go_ret
      exact ⟨rfl, H3.out⟩
end Go.Proofs.Ythfkjejjndgajaa
