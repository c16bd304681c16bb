/- MRow: Put, Row2, Same. -/
import Derived.WalkSpells
import Derived.WalkLawsBesides
import Derived.Deep.LoopGhost
import Derived.Deep.RegionHeld3
import Derived.StillTailTactics
import Derived.Test.YthfkjejjndgajaaMBase
import Derived.Test.YthfkjejjndgajaaPlainA
import Derived.BigQuiet
import Derived.Deep.QuietTactic
import Derived.Test.YthfkjejjndgajaaPsamex1
/- A row of bits that is written: what Put, Code and Fill do to it. -/
namespace Go.Proofs.Ythfkjejjndgajaa
open Go.RowKit Go.Proofs.YthfkjejjndgajaaW.PrintWords
open Rq hiding bytesOf bytesOf_length

theorem info_u8 : (Try.prog.info? 5).map (fun i => (i.zero, i.size, i.bytes)) = some (some (.int .u8 0), 1, 1) := by kernel_rfl

/-- The numbers of bytes. -/
def bnums (b : List UInt8) : List Int := b.map fun x => (x.toNat : Int)
theorem bnums_length (b : List UInt8) : (bnums b).length = b.length := by simp [bnums]
/-- Block g is a row of bits that holds bs; v: its bytes. -/
structure IsRow (w : World) (g base : Nat) (v : Value) (bs : List Bool) : Prop where
  ge : base ≤ g
  blk : w.heap[g]? = some (.cells #[v, .int .i64 ((bs.length % 8 : Nat) : Int)] 45 (0, 0))
  own : Kd.R (Kd.int .u8) 5 w base (fun _ => True) v (bnums (Rq.bytesOf bs))

theorem IsRow.ne {w : World} {g base : Nat} {v : Value} {bs : List Bool} (h : IsRow w g base v bs) : some g ≠ v.ownBlock := Kd.R_ne h.own h.blk (by decide)
theorem IsRow.drew {w : World} {g base : Nat} {v : Value} {bs : List Bool} (h : IsRow w g base v bs) : IsRow w.drew g base v bs := ⟨h.ge, h.blk, Kd.R_drew h.own⟩

theorem bit_and (n k : Nat) (hn : n < 2 ^ 62) : bits BinOp.and IntKind.i64 ((n : Int) / 2 ^ k) 1 = ((n.testBit k).toNat : Int) := by
  have h1 : ((n : Int) / 2 ^ k) = ((n / 2 ^ k : Nat) : Int) := by simp
  have hlt : n / 2 ^ k < 2 ^ 62 := Nat.lt_of_le_of_lt (Nat.div_le_self _ _) hn
  have h2 := (bits_nat .i64 62 (by decide) (fun x h0 h1 => by rw [IntKind.wrap_i64]; omega) (n / 2 ^ k) 1 hlt (by decide)).1
  rw [h1]
  refine h2.trans ?_
  rw [Nat.and_one_is_mod, Nat.testBit_eq_decide_div_mod_eq]
  rcases Nat.mod_two_eq_zero_or_one (n / 2 ^ k) with h | h <;> simp [h]

theorem byte_or (x m : Nat) (c : Bool) (hm : m < 8) (hx : x < 2 ^ m) : bits BinOp.or IntKind.u8 (x : Int) (((c.toNat : Int) % 256) * 2 ^ m % 256) = ((x + c.toNat * 2 ^ m : Nat) : Int) := by
  have h256 : (2 : Nat) ^ m ≤ 2 ^ 7 := Nat.pow_le_pow_right (by decide) (by omega)
  have hc : c.toNat ≤ 1 := by cases c <;> decide
  have e : (((c.toNat : Int) % 256) * 2 ^ m % 256) = ((2 ^ m * c.toNat : Nat) : Int) := by
    have h1 : ((c.toNat : Int) % 256) = (c.toNat : Int) := by omega
    rw [h1]
    have h2 : ((c.toNat : Int)) * 2 ^ m = ((2 ^ m * c.toNat : Nat) : Int) := by simp [Int.mul_comm]
    rw [h2]
    have : 2 ^ m * c.toNat ≤ 2 ^ 7 * 1 := Nat.mul_le_mul h256 hc
    omega
  rw [e]
  have hlt : 2 ^ m * c.toNat < 2 ^ 8 := Nat.lt_of_le_of_lt (Nat.mul_le_mul h256 hc) (by decide)
  have h3 := (bits_nat .u8 8 (by decide) wraps_u8 x (2 ^ m * c.toNat) (by omega) hlt).2
  refine h3.trans ?_
  rw [Nat.or_comm, ← Nat.two_pow_add_eq_or_of_lt hx c.toNat, Nat.mul_comm, Nat.add_comm]

/-- The last byte with one bit more. -/
theorem set_bit (bs : List Bool) (c : Bool) (m q : Nat) (hm : m = bs.length % 8) (h0 : m ≠ 0) (hq : q + 1 = (bnums (Rq.bytesOf bs)).length) :
    (bnums (Rq.bytesOf bs)).set q (bits BinOp.or IntKind.u8 (rdOf 0 (bnums (Rq.bytesOf bs)) (q : Int)) (((c.toNat : Int) % 256) * 2 ^ m % 256)) = bnums (Rq.bytesOf (bs ++ [c])) := by
  subst hm
  rw [bnums_length, Rq.bytesOf_length] at hq
  have hq8 : q = bs.length / 8 := by omega
  have hget : (bnums (Rq.bytesOf bs))[q]? = some ((byteAt bs q).toNat : Int) := by
    unfold bnums Rq.bytesOf
    rw [List.map_map, List.getElem?_map, List.getElem?_range (by omega)]; rfl
  have hrd : rdOf 0 (bnums (Rq.bytesOf bs)) (q : Int) = ((byteAt bs q).toNat : Int) := by
    unfold rdOf; rw [Int.toNat_natCast, List.getD_eq_getElem?_getD, hget]; rfl
  have hlt : (byteAt bs q).toNat < 2 ^ (bs.length % 8) := by
    rw [byteAt_toNat]
    refine Nat.lt_of_lt_of_le (ofBits_lt _) (Nat.pow_le_pow_right (by decide) ?_)
    rw [List.length_take, List.length_drop]; omega
  rw [hrd, byte_or _ _ _ (by omega) hlt, bytesOf_snoc_in bs c h0]
  have hlen : (Rq.bytesOf bs).length = q + 1 := by rw [Rq.bytesOf_length]; omega
  unfold bnums
  rw [List.map_append, List.map_dropLast]
  have e2 : ((byteAt bs (bs.length / 8)) + UInt8.ofNat (c.toNat * 2 ^ (bs.length % 8))).toNat = (byteAt bs q).toNat + c.toNat * 2 ^ (bs.length % 8) := by
    rw [← hq8, UInt8.toNat_add]
    have h256 : (2 : Nat) ^ (bs.length % 8) ≤ 2 ^ 7 := Nat.pow_le_pow_right (by decide) (by omega)
    have hc : c.toNat * 2 ^ (bs.length % 8) ≤ 1 * 2 ^ 7 := Nat.mul_le_mul (by cases c <;> decide) h256
    rw [UInt8.toNat_ofNat_of_lt' (by show _ < 256; omega)]
    omega
  apply List.ext_getElem?
  intro i
  rw [List.getElem?_set]
  by_cases hi : q = i
  · subst hi
    rw [if_pos rfl, if_pos (by rw [List.length_map, hlen]; omega), List.getElem?_append_right (by simp [hlen])]
    simp only [hlen, Nat.add_sub_cancel, List.length_dropLast, List.length_map, Nat.sub_self, List.map_cons, List.map_nil, List.getElem?_cons_zero, e2]

  · rw [if_neg hi]
    rcases Nat.lt_or_ge i q with h | h
    · rw [List.getElem?_append_left (by simp [hlen, h]), List.getElem?_dropLast, if_pos (by simp [hlen, h])]
    · rw [List.getElem?_eq_none (by simp [hlen]; omega), List.getElem?_eq_none (by simp [hlen]; omega)]

/-- A new byte with its first bit. -/
theorem set_bit_new (bs : List Bool) (c : Bool) (q : Nat) (h0 : bs.length % 8 = 0) (hq : q = (bnums (Rq.bytesOf bs)).length) :
    (bnums (Rq.bytesOf bs) ++ [0]).set q (bits BinOp.or IntKind.u8 0 ((c.toNat : Int) % 256)) = bnums (Rq.bytesOf (bs ++ [c])) := by
  have := byte_or 0 0 c (by decide) (by decide)
  have e0 : ((c.toNat : Int) % 256 * 2 ^ 0 % 256) = (c.toNat : Int) % 256 := by omega
  rw [e0] at this
  simp only [Int.natCast_zero] at this
  rw [this, bytesOf_snoc_new bs c h0]
  subst hq
  rw [List.set_append_right _ _ (Nat.le_refl _)]
  simp only [Nat.sub_self, List.set_cons_zero]
  unfold bnums
  rw [List.map_append]
  cases c <;> rfl

theorem blk_set {w : World} {g t : Nat} {cs : Array Value} {fr : Nat × Nat} (h : w.heap[g]? = some (.cells cs t fr)) (i : Nat) (u : Value) :
    (w.setCell ⟨g, i, none⟩ u).heap[g]? = some (.cells (cs.setIfInBounds i u) t fr) := by
  simp [World.setCell, Array.getElem?_modify, h]
theorem blk_far {w : World} {g : Nat} {o : Obj} (h : w.heap[g]? = some o) {p : Addr} (hp : g ≠ p.block) (u : Value) : (w.setCell p u).heap[g]? = some o :=
  (Below.heap_setCell w p u g hp).trans h

/-- What a row's writers say of the world. -/
structure RowStep (base : Nat) (w w' : World) (v v' : Value) : Prop where
  fr : FrT base [5, 45] w w'
  own : ∀ k, v'.ownBlock = some k → v.ownBlock = some k ∨ w.heap.size ≤ k

/-- What an append of a new byte leaves. -/
theorem put_new {wr w1 : World} {g base : Nat} {v1 v2 : Value} {bs : List Bool} (HR : IsRow wr g base v1 bs) (h0 : bs.length % 8 = 0) (hl : bs.length ≤ 1000100)
    (HO1 : Kd.R (Kd.int .u8) 5 w1 base (fun _ => True) v2 (bnums (Rq.bytesOf bs) ++ [0])) (hg1 : wr.grownBy w1 v1.ownBlock) :
    ∃ rb cap q, v2 = .slice (some ⟨rb, 0, none⟩) (q + 1) cap ∧ q ≤ 1000000 ∧ base ≤ rb ∧ w1.cell? ⟨rb, q, none⟩ = some (.int .u8 0) ∧ w1.frozen? ⟨rb, q, none⟩ = false ∧ rb ≠ g ∧
      w1.heap[g]? = some (.cells #[v1, .int .i64 0] 45 (0, 0)) ∧ (∃ cells, w1.heap[rb]? = some (.cells cells 5 (0, 0))) ∧
      (∀ c : Bool, Kd.R (Kd.int .u8) 5 ((w1.setCell ⟨g, 0, none⟩ v2).setCell ⟨rb, q, none⟩ (.int .u8 (bits BinOp.or IntKind.u8 0 ((c.toNat : Int) % 256)))) base (fun _ => True) v2 (bnums (Rq.bytesOf (bs ++ [c])))) := by
  have hlen1 : (bnums (Rq.bytesOf bs) ++ [0]).length = (bnums (Rq.bytesOf bs)).length + 1 := by simp
  obtain ⟨rb, cap, hv2, hbase1, hrb, cellsb, hblkb⟩ := Kd.R_form HO1 (by omega)
  obtain ⟨q, hL⟩ : ∃ q, q = (bnums (Rq.bytesOf bs)).length := ⟨_, rfl⟩
  rw [hlen1, ← hL] at hv2
  subst hv2
  obtain ⟨hc, hf⟩ := Kd.R_celln 0 HO1 (q : Int) (by omega) (by omega)
  rw [Int.toNat_natCast] at hc hf
  have hrd0 : rdOf 0 (bnums (Rq.bytesOf bs) ++ [0]) (q : Int) = 0 := by
    unfold rdOf; rw [Int.toNat_natCast, hL, List.getD_eq_getElem?_getD]; simp
  rw [hrd0] at hc
  have hblk1 := (hg1.block g (blk_lt HR.blk) HR.ne).trans HR.blk
  rw [h0] at hblk1
  have hne : rb ≠ g := fun e => by subst e; rw [hblkb] at hblk1; simp at hblk1
  refine ⟨rb, cap, q, rfl, ?_, hbase1, hc, hf, hne, hblk1, ⟨cellsb, hblkb⟩, fun c => ?_⟩
  · rw [bnums_length, Rq.bytesOf_length] at hL; omega
  · have h1 := Kd.R_set HO1 hblk1 (by decide) 0 (.slice (some ⟨rb, 0, none⟩) (q + 1) cap)
    have h2 := Kd.R_putn h1 (q : Int) (bits BinOp.or IntKind.u8 0 ((c.toNat : Int) % 256))
    rw [Int.toNat_natCast, set_bit_new bs c q h0 hL] at h2
    exact h2

theorem RowFr {w wr : World} {g base : Nat} {v : Value} {bs : List Bool} (h : IsRow wr g base v bs) : ∀ k, v.ownBlock = some k → (OnT wr [5, 45] k ∨ w.heap.size ≤ k) ∧ base ≤ k := by
  intro k hk
  obtain ⟨_, hb2, _, q', hq', cells, hcc⟩ := (Kd.R_bound h.own).1 k hk
  exact ⟨.inl ⟨q', cells, (0, 0), by simp only [Kd.int, Kd.scalar] at hq'; simp at hq'; simp [hq'], hcc⟩, hb2⟩

set_option maxHeartbeats 1000000 in
set_option maxRecDepth 100000 in
theorem put_any (g base : Nat) (v : Value) (bs : List Bool) (n size : Nat) (w : World) (h : IsRow w g base v bs) (hn : n < 2 ^ 62) (hs : size ≤ 16) (hb : base ≤ w.heap.size) (hl : bs.length ≤ 1000000) :
    Calls Try.prog 34 #[.pointer (some ⟨g, 0, none⟩), .int .i64 n, .int .i64 size] w fun e w' => e = .returned (.tuple #[]) ∧
      ∃ v', IsRow w' g base v' (bs ++ bitsOf n size) ∧ FrT base [5, 45] w w' := by
  have Hn := Lib.hid hn
  clear hn
  go_enter Try.func34, Try.ntmps34
  go_wp2_with fail
  go_loopw [8] (fun i wr => ∃ (k : Nat) (v1 : Value), k ≤ size ∧ i = .int .i64 k ∧ IsRow wr g base v1 (bs ++ bitsOf n k) ∧ FrT base [5, 45] w wr) (fun i _ => size - (intOf i).toNat)
  case atStart => exact ⟨0, v, Nat.zero_le _, rfl, by simpa [bitsOf] using h, FrT.refl _ _ _⟩
  case round =>
    obtain ⟨k, v1, hk, rfl, hrow, hfr⟩ := hrel
    by_cases hlt : k < size
    · have hcell0 : wr.cell? ⟨g, 0, none⟩ = some v1 := by simp [World.cell?, hrow.blk]
      have hcell1 : wr.cell? ⟨g, 1, none⟩ = some (.int .i64 (((bs ++ bitsOf n k).length % 8 : Nat) : Int)) := by simp [World.cell?, hrow.blk]
      have hf0 : wr.frozen? ⟨g, 0, none⟩ = false := by simp [World.frozen?, hrow.blk]
      have hf1 : wr.frozen? ⟨g, 1, none⟩ = false := by simp [World.frozen?, hrow.blk]
      have hblen : (bs ++ bitsOf n k).length ≤ 1000100 := by simp [bitsOf_length]; omega
      obtain ⟨m, hm⟩ : ∃ m, m = (bs ++ bitsOf n k).length % 8 := ⟨_, rfl⟩
      rw [← hm] at hcell1
      have hm8 : m < 8 := by omega
      have Hm := Lib.hid hm
      have Hl := Lib.hid hblen
      clear hm hblen
      by_cases h0 : m = 0
      · subst h0
        have hge := Aside0.mk hrow.ge
        have HR := Lib.hid hrow
        have hbr : base ≤ wr.heap.size := Nat.le_trans hb hfr.size
        clear hrow
        have hne0 : some g ≠ v1.ownBlock := HR.out.ne
        have hgl := blk_lt HR.out.blk
        have Hgl := Lib.hid hgl
        have Hne0 := Lib.hid hne0
        clear hgl hne0
        have hl0 := Aside0.mk (show ((bnums (Rq.bytesOf (bs ++ bitsOf n k))).length + 1) * 1 ≤ 140737488355328 by rw [bnums_length, Rq.bytesOf_length]; have := Hl.out; omega)
        go_wp2_with (first
         | (at_builtin
            refine Kd.R_append (Kd.int .u8) base rfl (.tmp 20) (.tmp 21) 22 5 (.int .u8 0) 1 rfl Try.underlying22 info_u8 rfl (by decide) (by decide) v1 (bnums (Rq.bytesOf (bs ++ bitsOf n k))) 0 [.int .u8 0] (fun _ => True) (fun _ => False) rfl rfl rfl (fun _ h => h.elim) (fun _ _ => trivial) HR.out.own (Below.refl _ _) hbr hl0.out ?_
            intro v2 w1 HO1 HB1 hg1 hat1
            obtain ⟨rb, cap, q, hv2, hLL, hbase1, hc, hf, hne, hblk1, hblkb, hput⟩ := put_new HR.out Hm.out.symm Hl.out HO1 hg1
            subst hv2
            have hne2 : g ≠ rb := fun e => hne e.symm
            have e1 : IntKind.i64.wrap (q : Int) = q := IntWalk.i64_in _ (by omega)
            have e2 : (q : Int) < q + 1 := by omega
            have hc1 : w1.cell? ⟨g, 1, none⟩ = some (.int .i64 0) := by simp [World.cell?, hblk1]
            have hc0 : w1.cell? ⟨g, 0, none⟩ = some v1 := by simp [World.cell?, hblk1]
            have hg0 : w1.frozen? ⟨g, 0, none⟩ = false := by simp [World.frozen?, hblk1]
            have hg1' : w1.frozen? ⟨g, 1, none⟩ = false := by simp [World.frozen?, hblk1]
            have Hfr2 := Aside0.mk (hfr.grown hg1 (RowFr HR.out))
            have Hput := Aside0.mk hput
            have Hblk := Lib.hid hblk1
            have HblkB := Lib.hid hblkb
            clear hput hblkb hblk1 HO1))
        obtain ⟨W2, hW2⟩ : ∃ W, W = w1.setCell ⟨g, 0, none⟩ (.slice (some ⟨rb, 0, none⟩) (q + 1) cap) := ⟨_, rfl⟩
        have hb2 : W2.heap[g]? = some (.cells #[.slice (some ⟨rb, 0, none⟩) (q + 1) cap, .int .i64 0] 45 (0, 0)) := by rw [hW2]; exact blk_set Hblk.out 0 _
        have k0 : W2.cell? ⟨g, 0, none⟩ = some (.slice (some ⟨rb, 0, none⟩) (q + 1) cap) := by simp [World.cell?, hb2]
        have k1 : W2.cell? ⟨g, 1, none⟩ = some (.int .i64 0) := by simp [World.cell?, hb2]
        have k2 : W2.frozen? ⟨g, 1, none⟩ = false := by simp [World.frozen?, hb2]
        have k3 : W2.cell? ⟨rb, q, none⟩ = some (.int .u8 0) := by rw [hW2]; exact (World.cell?_of_block (w := w1) (Below.heap_setCell w1 _ _ rb hne)).trans hc
        have k4 : W2.frozen? ⟨rb, q, none⟩ = false := by
          rw [hW2, World.frozen?_of_block (w := w1) (Below.heap_setCell w1 _ _ rb hne)]; exact hf
        rw [← hW2]
        have HW2 := Lib.hid hW2
        clear hW2 hb2 hc hf hc0 hc1 hg0 hg1'
        go_still_tail 24, (by kernel_rfl)
        go_wp2_with fail
        go_roundw
        case rel =>
          refine ⟨k + 1, .slice (some ⟨rb, 0, none⟩) (q + 1) cap, by omega, by go_num, ?_, ?_⟩
          · rw [bitsOf_snoc, ← List.append_assoc]
            rw [bit_and n k Hn.out, HW2.out]
            refine IsRow.drew ⟨hge.out, ?_, ?_⟩
            · rw [List.length_append, List.length_singleton]
              refine (blk_set (blk_far (blk_set Hblk.out 0 _) (p := ⟨rb, q, none⟩) hne2 _) 1 _).trans ?_
              have := Hm.out
              have e3 : (1 : Int) = (((bs ++ bitsOf n k).length + 1) % 8 : Nat) := by omega
              rw [e3]; rfl
            · exact Kd.R_set (Hput.out (n.testBit k)) (blk_far (blk_set Hblk.out 0 _) (p := ⟨rb, q, none⟩) hne2 _) (by decide) 1 _
          · rw [HW2.out]
            refine (((Hfr2.out.setCell (p := ⟨g, 0, none⟩) (.inl (OnT.of_blk Hblk.out (by simp))) hge.out _).setCell (p := ⟨rb, q, none⟩) (.inl (OnT.of_blk (blk_far HblkB.out.choose_spec (p := ⟨g, 0, none⟩) hne _) (by simp))) hbase1 _).setCell (p := ⟨g, 1, none⟩) (.inl (OnT.of_blk (blk_far (blk_set Hblk.out 0 _) (p := ⟨rb, q, none⟩) hne2 _) (by simp))) hge.out _).drew
        case measure => simp [intOf]; omega
      · have hb0 : ((m : Int) == 0) = false := by simp; omega
        have hpos : 0 < (bnums (Rq.bytesOf (bs ++ bitsOf n k))).length := by
          rw [bnums_length, Rq.bytesOf_length]
          have := Hm.out
          omega
        obtain ⟨rb, cap, hv1, hbase1, hrb, cellsb, hblkb⟩ := Kd.R_form hrow.own hpos
        subst hv1
        obtain ⟨q, hL⟩ : ∃ q, q + 1 = (bnums (Rq.bytesOf (bs ++ bitsOf n k))).length := ⟨_, Nat.succ_pred_eq_of_pos hpos⟩
        have hown := hrow.own
        rw [← hL] at hown hcell0
        obtain ⟨hc, hf⟩ := Kd.R_celln 0 hown (q : Int) (by omega) (by omega)
        have hput := Kd.R_putn hown (q : Int) (bits BinOp.or IntKind.u8 (rdOf 0 (bnums (Rq.bytesOf (bs ++ bitsOf n k))) (q : Int)) ((((n.testBit k).toNat : Int) % 256) * 2 ^ m % 256))
        rw [Int.toNat_natCast] at hc hf hput
        rw [set_bit _ _ _ _ Hm.out h0 hL] at hput
        have hLL : q ≤ 1000000 := by
          rw [bnums_length, Rq.bytesOf_length] at hL; have := Hl.out; omega
        have hne : rb ≠ g := fun e => by have := hrow.ne; simp [Value.ownBlock, e] at this
        have hne2 : g ≠ rb := fun e => hne e.symm
        have e1 : IntKind.i64.wrap (q : Int) = q := IntWalk.i64_in _ (by omega)
        have e2 : (q : Int) < q + 1 := by omega
        have Hput := Lib.hid hput
        have hblk0 := hrow.blk
        rw [← hL] at hblk0
        have Hblk := Lib.hid hblk0
        clear hblk0
        have Hblkb := Lib.hid hblkb
        have hge := Aside0.mk hrow.ge
        have HL := Lib.hid hL
        clear hL hown hrow hpos hput hblkb
        go_wp2_with fail
        go_still_tail 24, (by kernel_rfl)
        go_wp2_with fail
        go_roundw
        case rel =>
          refine ⟨k + 1, .slice (some ⟨rb, 0, none⟩) (q + 1) cap, by omega, by go_num, ?_, ?_⟩
          · rw [bitsOf_snoc, ← List.append_assoc]
            rw [bit_and n k Hn.out]
            refine IsRow.drew ⟨hge.out, ?_, ?_⟩
            · rw [List.length_append, List.length_singleton]
              refine (blk_set (blk_far Hblk.out (p := ⟨rb, q, none⟩) hne2 _) 1 _).trans ?_
              have := Hm.out
              have e3 : ((m : Int) + 1) % 8 = (((bs ++ bitsOf n k).length + 1) % 8 : Nat) := by omega
              rw [e3]; rfl
            · exact Kd.R_set Hput.out (blk_far Hblk.out (p := ⟨rb, q, none⟩) hne2 _) (by decide) 1 _
          · refine ((hfr.setCell (p := ⟨rb, q, none⟩) (.inl (OnT.of_blk Hblkb.out (by simp))) hbase1 _).setCell (p := ⟨g, 1, none⟩) (.inl (OnT.of_blk (blk_far Hblk.out (p := ⟨rb, q, none⟩) hne2 _) (by simp))) hge.out _).drew
        case measure => simp [intOf]; omega
    · go_wp2_with fail
      go_end0
      obtain rfl : k = size := by omega
      exact ⟨rfl, v1, hrow, hfr⟩
end Go.Proofs.Ythfkjejjndgajaa

/- Row's Code, Fill and Bytes; block.Order; block.trimmed. -/
namespace Go.Proofs.Ythfkjejjndgajaa
open Go.RowKit Go.Proofs.YthfkjejjndgajaaW.PrintWords
open Rq hiding bytesOf bytesOf_length

theorem put_calls {g base : Nat} {v : Value} {bs : List Bool} {w : World} (h : IsRow w g base v bs) (hb : base ≤ w.heap.size) (n size : Nat) (z sz : Int) (hz : z = n) (hsz : sz = size)
    (hn : n < 2 ^ 62) (hs : size ≤ 16) (hl : bs.length ≤ 1000000) :
    Calls Try.prog 34 #[.pointer (some ⟨g, 0, none⟩), .int .i64 z, .int .i64 sz] w fun e w' => e = .returned (.tuple #[]) ∧
      ∃ v', IsRow w' g base v' (bs ++ bitsOf n size) ∧ FrT base [5, 45] w w' := by
  subst hz hsz
  exact put_any g base v bs n size w h hn hs hb hl

theorem shift_nat (n q : Nat) : ((n : Int) / 2 ^ q) = ((n / 2 ^ q : Nat) : Int) := by simp

theorem codeBits_take (n size j q : Nat) (h : q + j + 1 = size) : (codeBits n size).take (j + 1) = (codeBits n size).take j ++ bitsOf (n / 2 ^ q) 1 := by
  have hl : j < (codeBits n size).length := by rw [codeBits_length]; omega
  rw [List.take_succ_eq_append_getElem hl]
  congr 1
  simp only [codeBits, List.getElem_map, List.getElem_range, bitsOf, List.range_one, List.map_cons, List.map_nil]
  rw [Nat.testBit_div_two_pow]
  congr 2
  omega

set_option maxHeartbeats 400000 in
theorem code_calls {g base : Nat} {v : Value} {bs : List Bool} {w : World} (h : IsRow w g base v bs) (hb : base ≤ w.heap.size) (n size : Nat) (z sz : Int) (hz : z = n) (hsz : sz = size)
    (hn : n < 2 ^ 62) (hs : size ≤ 16) (hl : bs.length ≤ 999000) :
    Calls Try.prog 67 #[.pointer (some ⟨g, 0, none⟩), .int .i64 z, .int .i64 sz] w fun e w' => e = .returned (.tuple #[]) ∧
      ∃ v', IsRow w' g base v' (bs ++ codeBits n size) ∧ FrT base [5, 45] w w' := by
  subst hz hsz
  have Hn := Lib.hid hn
  clear hn
  go_enter Try.func67, Try.ntmps67
  go_wp2_with fail
  go_loopw [6] (fun i wr => ∃ (j : Nat) (v1 : Value), j ≤ size ∧ i = .int .i64 ((size : Int) - 1 - j) ∧ IsRow wr g base v1 (bs ++ (codeBits n size).take j) ∧ FrT base [5, 45] w wr) (fun i _ => (intOf i + 1).toNat)
  case atStart => exact ⟨0, v, Nat.zero_le _, by simp, by simpa using h, FrT.refl _ _ _⟩
  case round =>
    obtain ⟨j, v1, hj, rfl, hrow, hfr⟩ := hrel
    by_cases hlt : j < size
    · obtain ⟨q, hq⟩ : ∃ q, q + j + 1 = size := ⟨size - 1 - j, by omega⟩
      have ex : ((size : Int) - 1 - j) = (q : Int) := by omega
      rw [ex]
      have Hq := Lib.hid hq
      have Hx := Lib.hid ex
      have hq16 : q ≤ 16 := by omega
      have hb1 : base ≤ wr.heap.size := Nat.le_trans hb hfr.size
      have hbl : (bs ++ (codeBits n size).take j).length ≤ 1000000 := by
        have := List.length_take_le j (codeBits n size); simp only [List.length_append]; omega
      have hn2 : n / 2 ^ q < 2 ^ 62 := Nat.lt_of_le_of_lt (Nat.div_le_self _ _) Hn.out
      have Hn2 := Lib.hid hn2
      have Hbl := Lib.hid hbl
      have HR := Lib.hid hrow
      clear hq ex hbl hn2 hrow
      go_wp2_with fail
      refine (put_calls HR.out hb1 (n / 2 ^ q) 1 _ _ (shift_nat n q) rfl Hn2.out (by omega) Hbl.out).mono ?_
      rintro e w1 ⟨rfl, v2, hrow2, hfr2⟩
      have HR2 := Lib.hid hrow2
      have Hfr2 := Aside0.mk (hfr.trans hfr2)
      clear hrow2 hfr2
      go_wp2_with fail
      go_roundw
      case rel =>
        refine ⟨j + 1, v2, by have := Hq.out; omega, ?_, ?_, Hfr2.out⟩
        · have := Hq.out
          have e : ((q : Int) - 1) = (size : Int) - 1 - ((j + 1 : Nat) : Int) := by omega
          rw [e]
        · rw [codeBits_take n size j q Hq.out, ← List.append_assoc]
          exact HR2.out
      case measure => simp [intOf]
    · obtain rfl : j = size := by omega
      have ex : ((j : Int) - 1 - j) = -1 := by omega
      rw [ex]
      clear ex
      go_wp2_with fail
      go_end0
      rw [List.take_of_length_le (by rw [codeBits_length]; exact Nat.le_refl _)] at hrow
      exact ⟨rfl, v1, hrow, hfr⟩

theorem fill_calls {g base : Nat} {v : Value} {bs : List Bool} {w : World} (h : IsRow w g base v bs) :
    Calls Try.prog 35 #[.pointer (some ⟨g, 0, none⟩)] w fun e w' => e = .returned (.tuple #[]) ∧ IsRow w' g base v (fill bs) ∧ FrT base [5, 45] w w' := by
  have hc1 : w.cell? ⟨g, 1, none⟩ = some (.int .i64 ((bs.length % 8 : Nat) : Int)) := by simp [World.cell?, h.blk]
  have hf1 : w.frozen? ⟨g, 1, none⟩ = false := by simp [World.frozen?, h.blk]
  go_enter Try.func35, Try.ntmps35
  go_wp2_with fail
  go_end0
  refine ⟨rfl, ⟨h.ge, ?_, ?_⟩, (FrT.refl _ _ _).setCell (.inl (OnT.of_blk h.blk (by simp))) h.ge _⟩
  · refine (blk_set h.blk 1 _).trans ?_
    have e : (fill bs).length % 8 = 0 := by rw [fill_length]; omega
    rw [e]; rfl
  · rw [bytesOf_fill]
    exact Kd.R_set h.own h.blk (by decide) 1 _

theorem rowBytes_calls {g base : Nat} {v : Value} {bs : List Bool} {w : World} (h : IsRow w g base v bs) :
    Calls Try.prog 23 #[.pointer (some ⟨g, 0, none⟩)] w fun e w' => e = .returned v ∧ w = w' := by
  have hc0 : w.cell? ⟨g, 0, none⟩ = some v := by simp [World.cell?, h.blk]
  go_enter Try.func23, Try.ntmps23
  go_wp2_with fail
  go_ret
  exact ⟨rfl, rfl⟩

end Go.Proofs.Ythfkjejjndgajaa

/- How many bytes from two places on are the same (match.same). -/
namespace Go.Proofs.Ythfkjejjndgajaa
open Go.RowKit Go.Proofs.YthfkjejjndgajaaW.PrintWords Go.Proofs.YthfkjejjndgajaaW.PrintLast Go.Proofs.YthfkjejjndgajaaW.PrintMore Go.Proofs.Ythfkjejjndgajaa.Psame
open Rq (sameF sameM)

theorem rd_bn (b : List UInt8) (i : Nat) : rd (bnums b) (i : Int) = ((b.getD i 0).toNat : Int) := by
  unfold rd bnums
  rw [Int.toNat_natCast, List.getD_eq_getElem?_getD, List.getElem?_map, List.getD_eq_getElem?_getD]
  cases b[i]? <;> simp
theorem wr64 (z : Int) (h : -1000000000 ≤ z ∧ z ≤ 1000000000) : wrap64 z = z := by unfold wrap64; omega
theorem same_l0 (b : List UInt8) (i k : Nat) (hb : b.length ≤ 1000000) (hik : i ≤ k) (hk : k ≤ 1000000) : ∀ f n : Nat, n + f = 258 → match_same.l0 (f + 1) (bnums b) (i : Int) (k : Int) (n : Int) = some ((n + sameF b f (i + n) (k + n) : Nat) : Int)
  | 0, n, h => by
    obtain rfl : n = 258 := by omega
    rw [match_same.l0, if_neg (by decide)]; rfl
  | f + 1, n, h => by
    have e1 : wrap64 ((k : Int) + (n : Int)) = ((k + n : Nat) : Int) := by rw [wr64 _ (by omega)]; omega
    have e2 : wrap64 ((i : Int) + (n : Int)) = ((i + n : Nat) : Int) := by rw [wr64 _ (by omega)]; omega
    have e3 : wrap64 ((n : Int) + 1) = ((n + 1 : Nat) : Int) := by rw [wr64 _ (by omega)]; omega
    rw [match_same.l0, if_pos (by omega), e1, e2, e3, sameF]
    by_cases hl : k + n < b.length
    · rw [if_pos (by rw [bnums_length]; omega), if_pos (by omega), if_pos (by rw [bnums_length]; omega), if_pos (by omega), rd_bn, rd_bn]
      by_cases he : b.getD (i + n) 0 = b.getD (k + n) 0
      · rw [if_pos (by rw [he]), if_pos ⟨hl, he⟩, same_l0 b i k hb hik hk f (n + 1) (by omega), show i + n + 1 = i + (n + 1) by omega, show k + n + 1 = k + (n + 1) by omega]
        congr 2; omega
      · rw [if_neg (fun h => he (UInt8.toNat_inj.1 (by omega))), if_neg (fun h => he h.2)]; rfl
    · rw [if_neg (by rw [bnums_length]; omega), if_neg (fun h => hl h.1)]; rfl
theorem same_calls {w : World} {A : Option Addr} {n c : Nat} {b : List UInt8} (hr : Kd.C (Kd.int .u8) w A n (bnums b)) (hc : n ≤ c) (hl : n ≤ 1000000) (i k : Nat) (z z' : Int) (hz : z = i) (hz' : z' = k) (hik : i ≤ k) (hk : k ≤ n) :
    Calls Try.prog 86 #[.slice A n c, .int .i64 z, .int .i64 z'] w fun e w' => e = .returned (.int .i64 ((sameM b i k : Nat) : Int)) ∧ Drawn0 w w' := by
  subst hz hz'
  obtain rfl : b.length = n := by have := hr.1; rw [bnums_length] at this; exact this
  have hs := same_l0 b i k hl hik (by omega) 258 0 rfl
  simp only [Nat.zero_add, Nat.add_zero] at hs
  have h := match_same.calls 259 A c (bnums b) (i : Int) (k : Int) ((sameM b i k : Nat) : Int) w (by rw [bnums_length]; exact hr) (by rw [bnums_length]; exact hc) hs
  rw [bnums_length] at h
  exact h
end Go.Proofs.Ythfkjejjndgajaa
