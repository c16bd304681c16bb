/- MBase: Base, Trim, Order, Wcheck, Extra, Sym. -/
import Derived.Test.YthfkjejjndgajaaProg
import Derived.WalkKit
import Derived.KernelRfl
import Derived.Lib.Hide
import Derived.Test.YthfkjejjndgajaaWMore
import Derived.Test.YthfkjejjndgajaaWFoot
import Derived.Test.YthfkjejjndgajaaPlainA
import Derived.WalkSpells
import Derived.WalkLawsBesides
import Derived.BigQuiet
import Derived.Deep.QuietTactic
import Derived.Test.YthfkjejjndgajaaPsymbolx1
/- What calls leave as it was: all blocks below a base, and above it all but those of some element types. -/
namespace Go.Proofs.Ythfkjejjndgajaa
open Go.RowKit Go.Proofs.YthfkjejjndgajaaW.PrintWords

/-- Block k is a row of cells of one of these element types. -/
def OnT (w : World) (E : List Nat) (k : Nat) : Prop := ∃ q cells fr, q ∈ E ∧ w.heap[k]? = some (.cells cells q fr)
/-- w' is w, but for new blocks, and for blocks from base on of the element types E. -/
structure FrT (base : Nat) (E : List Nat) (w w' : World) : Prop where
  os : w'.os = w.os
  tape : w'.tape = w.tape
  output : w'.output = w.output
  size : w.heap.size ≤ w'.heap.size
  block : ∀ k, k < w.heap.size → (base ≤ k → ¬ OnT w E k) → w'.heap[k]? = w.heap[k]?

section
variable {base : Nat} {E E' : List Nat} {w w1 w2 : World}
theorem FrT.refl (base : Nat) (E : List Nat) (w : World) : FrT base E w w := ⟨rfl, rfl, rfl, Nat.le_refl _, fun _ _ _ => rfl⟩
theorem OnT.same {k : Nat} (h : w1.heap[k]? = w.heap[k]?) (hn : ¬ OnT w E k) : ¬ OnT w1 E k := by
  rintro ⟨q, cells, fr, hq, hb⟩
  exact hn ⟨q, cells, fr, hq, h ▸ hb⟩
theorem FrT.trans (h : FrT base E w w1) (k : FrT base E w1 w2) : FrT base E w w2 :=
  ⟨k.os.trans h.os, k.tape.trans h.tape, k.output.trans h.output, Nat.le_trans h.size k.size, fun i hi hn => by
    have e := h.block i hi hn
    exact (k.block i (Nat.lt_of_lt_of_le hi h.size) (fun hb => OnT.same e (hn hb))).trans e⟩
theorem FrT.of_below (h : Below w.heap.size w w1) (base : Nat) (E : List Nat) : FrT base E w w1 := ⟨h.os, h.tape, h.output, h.size, fun i hi _ => h.block i hi⟩
theorem FrT.below (h : FrT base E w w1) (hb : Below w1.heap.size w1 w2) : FrT base E w w2 := h.trans (.of_below hb base E)
theorem FrT.more (h : FrT base E w w1) (hE : ∀ q ∈ E, q ∈ E') : FrT base E' w w1 :=
  ⟨h.os, h.tape, h.output, h.size, fun i hi hn => h.block i hi (fun hb ⟨q, c, f, hq, he⟩ => hn hb ⟨q, c, f, hE q hq, he⟩)⟩
theorem FrT.lower {base' : Nat} (h : FrT base E w w1) (hb : base' ≤ base) : FrT base' E w w1 :=
  ⟨h.os, h.tape, h.output, h.size, fun i hi hn => h.block i hi (fun hb' => hn (Nat.le_trans hb hb'))⟩
theorem FrT.to_below (h : FrT base E w w1) (hb : base ≤ w.heap.size) : Below base w w1 :=
  ⟨h.os, h.tape, h.output, h.size, fun i hi => h.block i (Nat.lt_of_lt_of_le hi hb) (fun hb' => by omega)⟩
theorem FrT.to_below0 (h : FrT w.heap.size E w w1) : Below w.heap.size w w1 := h.to_below (Nat.le_refl _)
theorem FrT.of_below_then {w0 : World} (h0 : Below w0.heap.size w0 w) (h : FrT w0.heap.size E w w1) : Below w0.heap.size w0 w1 := h0.trans (h.to_below h0.size)
theorem FrT.alloc (h : FrT base E w w1) (o : Obj) : FrT base E w (w1.alloc o) := h.below (below_alloc (Below.refl _ _) o)
theorem FrT.drew (h : FrT base E w w1) : FrT base E w w1.drew := ⟨h.os, h.tape, h.output, h.size, h.block⟩
theorem FrT.drewN (h : FrT base E w w1) (n : Nat) : FrT base E w (w1.drewN n) := ⟨h.os, h.tape, h.output, h.size, h.block⟩
/-- A store into a block of these types, or a new one. -/
theorem FrT.setCell (h : FrT base E w w1) {p : Addr} (hp : OnT w1 E p.block ∨ w.heap.size ≤ p.block) (hb : base ≤ p.block) (u : Value) : FrT base E w (w1.setCell p u) :=
  ⟨h.os, h.tape, h.output, by simpa [World.setCell] using h.size, fun i hi hn => by
    have e := h.block i hi hn
    have hne : i ≠ p.block := by
      rintro rfl
      rcases hp with hp | hp
      · exact OnT.same e (hn hb) hp
      · omega
    exact (Below.heap_setCell w1 p u i hne).trans e⟩
theorem FrT.grown (h : FrT base E w w1) {row : Option Nat} (hg : w1.grownBy w2 row) (hr : ∀ k, row = some k → (OnT w1 E k ∨ w.heap.size ≤ k) ∧ base ≤ k) : FrT base E w w2 :=
  ⟨hg.os.trans h.os, hg.tape.trans h.tape, hg.output.trans h.output, Nat.le_trans h.size hg.size, fun i hi hn => by
    have e := h.block i hi hn
    have hne : some i ≠ row := by
      intro he
      obtain ⟨hp, hb⟩ := hr i he.symm
      rcases hp with hp | hp
      · exact OnT.same e (hn hb) hp
      · omega
    exact (hg.block i (Nat.lt_of_lt_of_le hi h.size) hne).trans e⟩
theorem FrT.blk (h : FrT base E w w1) {g : Nat} {cells : Array Value} {q : Nat} {fr : Nat × Nat} (hb : w.heap[g]? = some (.cells cells q fr)) (hq : q ∉ E) : w1.heap[g]? = some (.cells cells q fr) :=
  (h.block g (blk_lt hb) (fun _ ⟨q', c, f, hq', he⟩ => by rw [hb] at he; injection he with he; injection he with _ he; subst he; exact hq hq')).trans hb
theorem OnT.of_blk {g : Nat} {cells : Array Value} {q : Nat} {fr : Nat × Nat} (hb : w.heap[g]? = some (.cells cells q fr)) (hq : q ∈ E) : OnT w E g := ⟨q, cells, fr, hq, hb⟩
/-- A row of the call's own, of other types. -/
theorem R_frt {α : Type} {d : Kd α} {e b : Nat} {ok : Nat → Prop} {v : Value} {xs : List α} (h : d.R e w b ok v xs) (hf : FrT base E w w1) (hE : ∀ q ∈ e :: d.E, q ∉ E) : d.R e w1 b ok v xs :=
  Kd.R_mono (Kd.R_move (Kd.R_bound h) (fun k hk => by
    obtain ⟨_, _, hlt, q, hq, cells, hc⟩ := hk
    exact (hf.blk hc (hE q hq)).trans hc.symm)) (fun _ hk => hk.1)
/-- What stays read whatever the calls do. -/
def Rd {α : Type} (base : Nat) (E : List Nat) (w : World) (d : Kd α) (A : Option Addr) (n : Nat) (xs : List α) : Prop := ∀ W, FrT base E w W → d.C W A n xs
variable {α : Type} {d : Kd α} {A : Option Addr} {n : Nat} {xs : List α}
theorem Rd.now (h : Rd base E w d A n xs) : d.C w A n xs := h w (.refl _ _ _)
theorem Rd.at_ (h : Rd base E w d A n xs) (hf : FrT base E w w1) : d.C w1 A n xs := h w1 hf
theorem Rd.step (h : Rd base E w d A n xs) (hf : FrT base E w w1) : Rd base E w1 d A n xs := fun W hW => h W (hf.trans hW)
theorem Rd.of_came {w0 : World} (hd : Kd.Heap d) (h : d.C w0 A n xs) (hb : Below w0.heap.size w0 w) : Rd w0.heap.size E w d A n xs := fun W hW =>
  hd.C (fun k hlt => (hW.block k (Nat.lt_of_lt_of_le hlt hb.size) (fun hb' => by omega)).trans (hb.block k hlt)) h
theorem Rd.of_came_le {w0 : World} (hd : Kd.Heap d) (h : d.C w0 A n xs) (hb : Below w0.heap.size w0 w) (hle : w0.heap.size ≤ base) : Rd base E w d A n xs := fun W hW =>
  hd.C (fun k hlt => (hW.block k (Nat.lt_of_lt_of_le hlt hb.size) (fun hb' => by omega)).trans (hb.block k hlt)) h
theorem Rd.of_own {e b c : Nat} {ok : Nat → Prop} (h : d.R e w b ok (.slice A n c) xs) (hE : ∀ q ∈ e :: d.E, q ∉ E) : Rd base E w d A n xs := fun W hW => by
  have h2 := Kd.R_reads' (R_frt h hW hE)
  rw [h2.1]
  exact h2.2.2
theorem Rd.nil : Rd base E w d none 0 ([] : List α) := fun W _ => Kd.C_nil d W
theorem Rd.more (h : Rd base E' w d A n xs) (hE : ∀ q ∈ E, q ∈ E') : Rd base E w d A n xs := fun W hW => h W (hW.more hE)
end
end Go.Proofs.Ythfkjejjndgajaa

/- block.trimmed. -/
namespace Go.Proofs.Ythfkjejjndgajaa
open Go.RowKit Go.Proofs.YthfkjejjndgajaaW.PrintWords
/-- Numbers as Go's ints. -/
def nn (l : List Nat) : List Int := l.map fun (n : Nat) => (n : Int)
theorem nn_length (l : List Nat) : (nn l).length = l.length := by simp [nn]
theorem nn_append (a b : List Nat) : nn (a ++ b) = nn a ++ nn b := by simp [nn]
theorem nn_take (a : List Nat) (n : Nat) : nn (a.take n) = (nn a).take n := by simp [nn]
theorem rd_nn (l : List Nat) (i : Nat) : rd (nn l) (i : Int) = (l.getD i 0 : Nat) := by
  unfold rd nn
  rw [Int.toNat_natCast, List.getD_eq_getElem?_getD, List.getElem?_map, List.getD_eq_getElem?_getD]
  cases l[i]? <;> simp
open Rq (trimLen trimM trimLen_le)

set_option maxHeartbeats 400000 in
theorem trimmed_calls {A : Option Addr} {c : Nat} {l : List Nat} {w : World} (hr : Kd.C (Kd.int .i64) w A l.length (nn l)) (hc : l.length ≤ c) (least : Nat) (z : Int) (hz : z = least) (hl : l.length ≤ 1000000) (hl1 : least ≤ 1000000) :
    Calls Try.prog 63 #[.slice A l.length c, .int .i64 z] w fun e w' => e = .returned (.slice A (trimLen l least l.length) c) ∧ w = w' := by
  subst hz
  have HC := Aside0.mk hr
  clear hr
  go_enter Try.func63, Try.ntmps63
  go_wp2_with fail
  go_loop [5] (fun i => ∃ n : Nat, i = .int .i64 n ∧ n ≤ l.length ∧ trimLen l least l.length = trimLen l least n) (fun i => (intOf i).toNat)
  case atStart => exact ⟨l.length, rfl, Nat.le_refl _, rfl⟩
  case round =>
    obtain ⟨n, rfl, hn, ht⟩ := hrel
    have HT := Lib.hid ht
    clear ht
    by_cases h1 : least < n
    · obtain ⟨m, rfl⟩ : ∃ m, n = m + 1 := ⟨n - 1, by omega⟩
      obtain ⟨ad, hA, hcell⟩ := Kd.at_int HC.out (m : Int) (by omega) (by omega)
      cases hA
      rw [rd_nn, Int.toNat_natCast] at hcell
      have e1 : (m : Int) < l.length := by omega
      have hm6 : m ≤ 1000000 := by omega
      by_cases h2 : l.getD m 0 = 0
      · rw [h2] at hcell
        go_wp2_with fail
        go_round
        case rel => exact ⟨m, by go_num, by omega, by rw [HT.out, trimLen, if_pos ⟨h1, h2⟩]⟩
        case measure => simp [intOf]
      · obtain ⟨x, hx⟩ : ∃ x, x = l.getD m 0 := ⟨_, rfl⟩
        rw [← hx] at hcell h2
        have h3 : ((x : Int) == 0) = false := by simp; omega
        have HX := Lib.hid hx
        clear hx
        go_wp2_with fail
        go_ret
        refine ⟨?_, rfl⟩
        rw [HT.out, trimLen, if_neg (fun h => by have := HX.out; have := h.2; omega)]
        rfl
    · go_wp2_with fail
      go_ret
      refine ⟨?_, rfl⟩
      have e : trimLen l least n = n := by
        cases n with
        | zero => rfl
        | succ m => rw [trimLen, if_neg (fun h => h1 h.1)]
      rw [HT.out, e]
      rfl
end Go.Proofs.Ythfkjejjndgajaa

/- block.Order. -/
namespace Go.Proofs.Ythfkjejjndgajaa
open Go.RowKit Go.Proofs.YthfkjejjndgajaaW.PrintWords
/-- The places of the lengths of the code of lengths. -/
def orderM : List Nat := [16, 17, 18, 0, 8, 7, 9, 6, 10, 5, 11, 4, 12, 3, 13, 2, 14, 1, 15]
def ints (l : List Nat) : List Value := l.map fun (n : Nat) => Value.int .i64 (n : Int)
theorem orderBuilt : Try.prog.built 115 [(0, .int .i64 16), (1, .int .i64 17), (2, .int .i64 18), (3, .int .i64 0), (4, .int .i64 8), (5, .int .i64 7), (6, .int .i64 9), (7, .int .i64 6), (8, .int .i64 10), (9, .int .i64 5), (10, .int .i64 11), (11, .int .i64 4), (12, .int .i64 12), (13, .int .i64 3), (14, .int .i64 13), (15, .int .i64 2), (16, .int .i64 14), (17, .int .i64 1), (18, .int .i64 15)] = some (ints orderM).toArray := by kernel_rfl
theorem orderInfo : (Try.prog.info? 115).map (·.size) = some (ints orderM).toArray.size := by kernel_rfl
theorem orderOne : (ints orderM).toArray.all (·.oneCell') = true := by kernel_rfl
theorem wpList_build_as {P : Program} {ops : Array Oper} {rest : List Oper} {o : Oper} {a : Act} {w : World} {Q : Exit → Act → World → Prop} (hg : o.guard = none) (t : TypeId) (parts : Array (Nat × Operand)) (ho : o.op = .build t parts)
    (cs : Array Value) (hf : P.built t (parts.map fun (i, x) => (i, a.eval x)).toList = some cs) (h : wpList P ops Q rest (a.put o.dst (.agg cs)) w) : wpList P ops Q (o :: rest) a w :=
  wpList_build hg t parts ho (by rw [hf]; rfl) (by rw [hf]; exact h)
theorem setRow_alloc_new (w : World) (old cs : Array Value) (t : TypeId) (fr : Nat × Nat) : (w.alloc (.cells old t fr)).setRow w.heap.size cs = w.alloc (.cells cs t fr) := by
  unfold World.setRow World.alloc
  congr 1
  apply Array.ext_getElem?
  intro i
  rw [Array.getElem?_modify, Array.getElem?_push, Array.getElem?_push]
  by_cases h : w.heap.size = i
  · subst h; simp
  · rw [if_neg h, if_neg (fun e => h e.symm), if_neg (fun e => h e.symm)]
set_option maxRecDepth 10000 in
set_option maxHeartbeats 400000 in
theorem order_calls (w : World) : Calls Try.prog 65 #[] w fun e w' => e = .returned (.agg (ints orderM).toArray) ∧ Below w.heap.size w w' := by
  go_enter Try.func65, Try.ntmps65
  iterate 7 go_step
  obtain ⟨W, hW⟩ : ∃ W, W = w.alloc (.cells (ints (List.replicate 19 0)).toArray 115) := ⟨_, rfl⟩
  show Exit.then _ _ Exit.normal _ (w.alloc (.cells (ints (List.replicate 19 0)).toArray 115))
  rw [← hW]
  iterate 4 go_step
  refine wpList_build_as rfl 115 _ rfl (ints orderM).toArray (by clear hW; kernel_rfl) ?_
  refine wpList_store_row rfl 115 (.tmp 0) (.tmp 1) rfl w.heap.size (ints orderM).toArray rfl rfl 115 (ints (List.replicate 19 0)).toArray ?_ orderInfo rfl orderOne ?_
  · rw [hW]; exact heap_alloc_new w _
  go_wp2_with fail
  refine bodyPost_ret (v := .agg (ints orderM).toArray) ?_ rfl ⟨rfl, ?_⟩
  · refine results_cell_row (P := Try.prog) rfl _ _ w.heap.size 115 (ints orderM).toArray (0, 0) _ rfl ?_ Try.underlying115 rfl orderInfo
    rw [hW, setRow_alloc_new]
    exact heap_alloc_new w _
  · rw [hW, setRow_alloc_new]
    exact (Below.refl _ _).alloc (Nat.le_refl _) _
end Go.Proofs.Ythfkjejjndgajaa

/- weigh.check of what may be. -/
namespace Go.Proofs.Ythfkjejjndgajaa
open Go.RowKit Go.Proofs.YthfkjejjndgajaaW.PrintWords

/-- How many are wanted. -/
def used (l : List Nat) : Nat := l.countP (0 < ·)
theorem used_succ (l : List Nat) (k : Nat) (h : k < l.length) : used (l.take (k + 1)) = used (l.take k) + if 0 < l.getD k 0 then 1 else 0 := by
  unfold used
  rw [List.take_succ_eq_append_getElem h, List.countP_append]
  simp [List.countP_cons, List.getD_eq_getElem?_getD, h]
theorem used_le (l : List Nat) : used l ≤ l.length := List.countP_le_length

theorem shl_one (m : Nat) (h : m ≤ 15) : (Op.shift .shl .i64 1 .i64 (m : Int) : Sem Value) = pure (.int .i64 ((2 ^ m : Nat) : Int)) := by
  match m, h with
  | 0, _ => rfl
  | 1, _ => rfl
  | 2, _ => rfl
  | 3, _ => rfl
  | 4, _ => rfl
  | 5, _ => rfl
  | 6, _ => rfl
  | 7, _ => rfl
  | 8, _ => rfl
  | 9, _ => rfl
  | 10, _ => rfl
  | 11, _ => rfl
  | 12, _ => rfl
  | 13, _ => rfl
  | 14, _ => rfl
  | 15, _ => rfl

theorem wrap_pow (m : Nat) (h : m ≤ 15) : wrap64 ((2 : Int) ^ m) = ((2 ^ m : Nat) : Int) := by
  have h2 : (2 : Int) ^ m = ((2 ^ m : Nat) : Int) := by push_cast; rfl
  rw [h2]
  have : 2 ^ m ≤ 2 ^ 15 := Nat.pow_le_pow_right (by decide) h
  generalize 2 ^ m = x at *
  unfold wrap64; omega

set_option maxHeartbeats 400000 in
theorem wcheck_calls {w : World} {A : Option Addr} {c : Nat} {l : List Nat} (hr : Kd.C (Kd.int .i64) w A l.length (nn l)) (hlen : l.length ≤ 288) (hval : ∀ x ∈ l, x ≤ 1000000)
    (most : Nat) (z : Int) (hz : z = most) (h1 : 1 ≤ most) (h15 : most ≤ 15) (hu : used l ≤ 2 ^ most) :
    Calls Try.prog 87 #[.slice A l.length c, .int .i64 z] w fun e w' => e = .returned (.int .i64 0) ∧ w = w' := by
  subst hz
  have HC := Aside0.mk hr
  have HV := Aside0.mk hval
  obtain ⟨n, hn⟩ : ∃ n, n = l.length := ⟨_, rfl⟩
  rw [← hn] at HC hlen ⊢
  have HN := Aside0.mk hn
  have HU := Aside0.mk hu
  have hd : decide ((n : Int) > 288) = false := decide_eq_false (by omega)
  obtain ⟨pw, hpw⟩ : ∃ pw, pw = 2 ^ most := ⟨_, rfl⟩
  have hsh : wrap64 ((2 : Int) ^ most) = (pw : Int) := by
    rw [hpw]; exact wrap_pow most h15
  have HPW := Aside0.mk hpw
  clear hr hval hn hu hpw
  go_enter Try.func87, Try.ntmps87
  go_wp2_with fail
  go_loop [5, 13] (fun vu vk => ∃ k u : Nat, vk = .int .i64 k ∧ vu = .int .i64 u ∧ k ≤ n ∧ u ≤ k ∧ Aside0 (u = used (l.take k))) (fun _ vk => n - (intOf vk).toNat)
  case atStart => exact ⟨0, 0, rfl, rfl, Nat.zero_le _, Nat.le_refl _, ⟨by simp [used]⟩⟩
  case round =>
    obtain ⟨k, u, rfl, rfl, hk, huk, HK⟩ := hrel
    by_cases hlt : k < n
    · obtain ⟨ad, hA, hcell⟩ := Kd.at_int HC.out (k : Int) (by omega) (by omega)
      cases hA
      rw [rd_nn, Int.toNat_natCast] at hcell
      obtain ⟨x, hx⟩ : ∃ x, x = l.getD k 0 := ⟨_, rfl⟩
      rw [← hx] at hcell
      have hx6 : x ≤ 1000000 := by
        rw [hx, List.getD_eq_getElem?_getD, List.getElem?_eq_getElem (by have := HN.out; omega)]
        exact HV.out _ (List.getElem_mem _)
      have HX := Aside0.mk hx
      have k1 : (k : Int) < n := by omega
      have x1 : decide ((x : Int) < 0) = false := decide_eq_false (by omega)
      have x2 : decide ((x : Int) > 1000000) = false := decide_eq_false (by omega)
      have x1' : ¬ (x : Int) < 0 := by omega
      have x2' : ¬ (1000000 : Int) < x := by omega
      clear hx
      by_cases h0 : 0 < x
      · have x3 : (0 : Int) < x := by omega
        go_wp2_with fail
        go_round
        case rel => exact ⟨k + 1, u + 1, by go_num, by go_num, by omega, by omega, ⟨by rw [used_succ l k (by have := HN.out; omega), ← HX.out, if_pos h0, HK.out]⟩⟩
        case measure => simp [intOf]; omega
      · have x3 : ¬ (0 : Int) < x := by omega
        go_wp2_with fail
        go_round
        case rel => exact ⟨k + 1, u, by go_num, rfl, by omega, by omega, ⟨by rw [used_succ l k (by have := HN.out; omega), ← HX.out, if_neg h0, HK.out]; rfl⟩⟩
        case measure => simp [intOf]; omega
    · have k1 : ¬ (k : Int) < n := by omega
      have m1 : decide ((most : Int) < 1) = false := decide_eq_false (by omega)
      have m2 : decide ((most : Int) > 15) = false := decide_eq_false (by omega)
      have m1' : ¬ (most : Int) < 1 := by omega
      have m2' : ¬ (15 : Int) < most := by omega
      have m3 : ¬ (pw : Int) < u := by
        have h1 := HK.out
        rw [List.take_of_length_le (by have := HN.out; omega)] at h1
        have := HU.out; have := HPW.out; omega
      go_wp2_with fail
      go_ret
      exact ⟨rfl, rfl⟩
end Go.Proofs.Ythfkjejjndgajaa

/- The rows of where symbols begin (block.Sames, block.Fars). -/
namespace Go.Proofs.Ythfkjejjndgajaa
open Go.RowKit Go.Proofs.YthfkjejjndgajaaW.PrintWords Go.Proofs.Ythfkjejjndgajaa.Psymbol
open Rq (fromS fromF bitsS bitsF)

theorem info_extra : (Try.prog.info? 123).map (fun i => (i.zero, i.size, i.bytes)) = some (some (.agg #[.int .i64 0, .int .i64 0]), 2, 16) := by kernel_rfl
def sameAt (i : Nat) : S123 := ⟨(fromS i : Int), (bitsS i : Int)⟩
def farAt (i : Nat) : S123 := ⟨(fromF i : Int), (bitsF i : Int)⟩
def samesM : List S123 := (List.range 28).map sameAt ++ [⟨258, 0⟩]
def farsM : List S123 := (List.range 30).map farAt

set_option maxHeartbeats 400000 in
theorem sames_calls (w : World) : Calls Try.prog 68 #[] w fun e w' => ∃ v, e = .returned v ∧ Kd.R k123 123 w' w.heap.size (fun _ => True) v samesM ∧ Below w.heap.size w w' := by
  go_enter Try.func68, Try.ntmps68
  go_wp2_with fail
  go_loopw [1, 2, 5] (fun v1 v2 v5 wr => ∃ k x : Nat, v5 = .int .i64 k ∧ v2 = .int .i64 x ∧ k ≤ 28 ∧ Aside0 (x = fromS k) ∧ Aside0 (Kd.R k123 123 wr w.heap.size (fun _ => True) v1 ((List.range k).map sameAt) ∧ Below w.heap.size w wr)) (fun _ _ v5 _ => 28 - (intOf v5).toNat)
  case atStart => exact ⟨0, 3, rfl, rfl, by omega, ⟨rfl⟩, ⟨Kd.R_nil _ _ _ _ _, Below.refl _ _⟩⟩
  case round =>
    obtain ⟨k, x, rfl, rfl, hk, HX, HR⟩ := hrel
    by_cases hlt : k < 28
    · have k1 : (k : Int) < 28 := by omega
      obtain ⟨n, hn⟩ : ∃ n, n = bitsS k := ⟨_, rfl⟩
      have hn13 : n ≤ 13 := by rw [hn]; exact Rq.bitsS_le k hlt
      have hx6 : x ≤ 1000000 := by rw [HX.out]; exact Rq.fromS_le k hk
      obtain ⟨pw, hpw⟩ : ∃ pw, pw = 2 ^ n := ⟨_, rfl⟩
      have hpl : pw ≤ 8192 := by rw [hpw]; have : 2 ^ n ≤ 2 ^ 13 := Nat.pow_le_pow_right (by decide) hn13; omega
      have hsh : wrap64 ((2 : Int) ^ n) = (pw : Int) := by rw [hpw]; exact wrap_pow n (by omega)
      have HN := Aside0.mk (And.intro hn hpw)
      have hq : (if (1 : Int) < (k : Int) / 4 then (k : Int) / 4 - 1 else 0) = (n : Int) := by
        rw [hn]; unfold bitsS; split <;> omega
      clear hn hpw
      go_upto_region 7 with fail
      clear hq
      go_wp2_with (first
        | (at_builtin
           go_must (refine Kd.R_append k123 (w0 := w) w.heap.size rfl (.tmp 12) (.tmp 16) 118 123 (.agg #[.int .i64 0, .int .i64 0]) 16 rfl Try.underlying118 info_extra rfl (by decide) (by decide) _ ((List.range k).map sameAt) ⟨(x : Int), (n : Int)⟩ [.int .i64 (x : Int), .int .i64 (n : Int)] (fun _ => True) (fun _ => False) rfl rfl (k123_mkM _ _ _ _) (fun _ h => h.elim) (fun _ _ => trivial) HR.out.1 HR.out.2 HR.out.2.size (by simp; omega) ?_)
           intro v3 w3 hR3 hB3 hg3 hat3
           have H3 := Aside0.mk (And.intro hR3 hB3)
           clear hR3 hB3 hg3 hat3))
      go_roundw
      case rel =>
        refine ⟨k + 1, x + pw, by go_num, by go_num, by omega, ⟨by rw [fromS, ← HX.out, ← HN.out.1, HN.out.2]⟩, ⟨?_, H3.out.2⟩⟩
        have h1 := H3.out.1
        rw [List.range_succ, List.map_append, List.map_singleton]
        have e : sameAt k = ⟨(x : Int), (n : Int)⟩ := by unfold sameAt; rw [← HX.out, ← HN.out.1]
        rw [e]; exact h1
      case measure => simp [intOf]; omega
    · have k1 : ¬ (k : Int) < 28 := by omega
      obtain rfl : k = 28 := by omega
      go_wp2_with (first
        | (at_builtin
           go_must (refine Kd.R_append k123 (w0 := w) w.heap.size rfl (.tmp 23) (.tmp 25) 118 123 (.agg #[.int .i64 0, .int .i64 0]) 16 rfl Try.underlying118 info_extra rfl (by decide) (by decide) _ ((List.range 28).map sameAt) ⟨258, 0⟩ [.int .i64 258, .int .i64 0] (fun _ => True) (fun _ => False) rfl rfl (k123_mkM _ _ _ _) (fun _ h => h.elim) (fun _ _ => trivial) HR.out.1 HR.out.2 HR.out.2.size (by simp) ?_)
           intro v3 w3 hR3 hB3 hg3 hat3
           have H3 := Aside0.mk (And.intro hR3 hB3)
           clear hR3 hB3 hg3 hat3))
      go_ret
      exact ⟨_, rfl, H3.out.1, H3.out.2⟩
set_option maxHeartbeats 400000 in
theorem fars_calls (w : World) : Calls Try.prog 69 #[] w fun e w' => ∃ v, e = .returned v ∧ Kd.R k123 123 w' w.heap.size (fun _ => True) v farsM ∧ Below w.heap.size w w' := by
  go_enter Try.func69, Try.ntmps69
  go_wp2_with fail
  go_loopw [1, 2, 5] (fun v1 v2 v5 wr => ∃ k x : Nat, v5 = .int .i64 k ∧ v2 = .int .i64 x ∧ k ≤ 30 ∧ Aside0 (x = fromF k) ∧ Aside0 (Kd.R k123 123 wr w.heap.size (fun _ => True) v1 ((List.range k).map farAt) ∧ Below w.heap.size w wr)) (fun _ _ v5 _ => 30 - (intOf v5).toNat)
  case atStart => exact ⟨0, 1, rfl, rfl, by omega, ⟨rfl⟩, ⟨Kd.R_nil _ _ _ _ _, Below.refl _ _⟩⟩
  case round =>
    obtain ⟨k, x, rfl, rfl, hk, HX, HR⟩ := hrel
    by_cases hlt : k < 30
    · have k1 : (k : Int) < 30 := by omega
      obtain ⟨n, hn⟩ : ∃ n, n = bitsF k := ⟨_, rfl⟩
      have hn13 : n ≤ 13 := by rw [hn]; exact Rq.bitsF_le k hlt
      have hx6 : x ≤ 1000000 := by rw [HX.out]; exact Rq.fromF_le k hk
      obtain ⟨pw, hpw⟩ : ∃ pw, pw = 2 ^ n := ⟨_, rfl⟩
      have hpl : pw ≤ 8192 := by rw [hpw]; have : 2 ^ n ≤ 2 ^ 13 := Nat.pow_le_pow_right (by decide) hn13; omega
      have hsh : wrap64 ((2 : Int) ^ n) = (pw : Int) := by rw [hpw]; exact wrap_pow n (by omega)
      have HN := Aside0.mk (And.intro hn hpw)
      have hq : (if (1 : Int) < (k : Int) / 2 then (k : Int) / 2 - 1 else 0) = (n : Int) := by
        rw [hn]; unfold bitsF; split <;> omega
      clear hn hpw
      go_upto_region 7 with fail
      clear hq
      go_wp2_with (first
        | (at_builtin
           go_must (refine Kd.R_append k123 (w0 := w) w.heap.size rfl (.tmp 12) (.tmp 16) 118 123 (.agg #[.int .i64 0, .int .i64 0]) 16 rfl Try.underlying118 info_extra rfl (by decide) (by decide) _ ((List.range k).map farAt) ⟨(x : Int), (n : Int)⟩ [.int .i64 (x : Int), .int .i64 (n : Int)] (fun _ => True) (fun _ => False) rfl rfl (k123_mkM _ _ _ _) (fun _ h => h.elim) (fun _ _ => trivial) HR.out.1 HR.out.2 HR.out.2.size (by simp; omega) ?_)
           intro v3 w3 hR3 hB3 hg3 hat3
           have H3 := Aside0.mk (And.intro hR3 hB3)
           clear hR3 hB3 hg3 hat3))
      go_roundw
      case rel =>
        refine ⟨k + 1, x + pw, by go_num, by go_num, by omega, ⟨by rw [fromF, ← HX.out, ← HN.out.1, HN.out.2]⟩, ⟨?_, H3.out.2⟩⟩
        have h1 := H3.out.1
        rw [List.range_succ, List.map_append, List.map_singleton]
        have e : farAt k = ⟨(x : Int), (n : Int)⟩ := by unfold farAt; rw [← HX.out, ← HN.out.1]
        rw [e]; exact h1
      case measure => simp [intOf]; omega
    · have k1 : ¬ (k : Int) < 30 := by omega
      obtain rfl : k = 30 := by omega
      go_wp2_with fail
      go_ret
      exact ⟨_, rfl, HR.out.1, HR.out.2⟩
end Go.Proofs.Ythfkjejjndgajaa

/- The symbol of a number (block.symbol). -/
namespace Go.Proofs.Ythfkjejjndgajaa
open Go.RowKit Go.Proofs.YthfkjejjndgajaaW.PrintWords Go.Proofs.Ythfkjejjndgajaa.Psymbol
open Rq (fromS fromF bitsS bitsF symTo fromS' symS symF)

theorem symbol_l0 (l : List S123) (f : Nat → Nat) (n m : Nat) (hm : l.length = m) (hm2 : m ≤ 1000) (hf : ∀ i, i < m → (rd_T123 l (i : Int)).f0 = (f i : Int)) :
    ∀ d i, i + d = m → block_symbol.l0 (d + 1) (n : Int) ((symTo f n i : Nat) : Int) l (m : Int) (i : Int) = some ((symTo f n m : Nat) : Int)
  | 0, i, h => by
    obtain rfl : i = m := by omega
    rw [block_symbol.l0, if_neg (by omega)]
  | d + 1, i, h => by
    have hw : wrap64 ((i : Int) + 1) = ((i + 1 : Nat) : Int) := by unfold wrap64; omega
    have ih := symbol_l0 l f n m hm hm2 hf d (i + 1) (by omega)
    rw [block_symbol.l0, if_pos (by omega), if_pos (by omega), if_pos (by omega), hf i (by omega), hw]
    by_cases hc : f i ≤ n
    · rw [if_pos (by omega)]
      rw [symTo, if_pos hc] at ih
      exact ih
    · rw [if_neg (by omega)]
      rw [symTo, if_neg hc] at ih
      exact ih
theorem symbol_f (l : List S123) (f : Nat → Nat) (n m : Nat) (hm : l.length = m) (hm2 : m ≤ 1000) (hf : ∀ i, i < m → (rd_T123 l (i : Int)).f0 = (f i : Int)) :
    block_symbol.f (m + 1) l (n : Int) = some ((symTo f n m : Nat) : Int) := by
  unfold block_symbol.f
  rw [hm]
  exact symbol_l0 l f n m hm hm2 hf m 0 (by omega)
theorem sames_get (i : Nat) (h : i < 29) : (rd_T123 samesM (i : Int)).f0 = (fromS' i : Int) := by
  unfold rd_T123 samesM fromS'
  rw [Int.toNat_natCast, List.getD_eq_getElem?_getD]
  by_cases h8 : i < 28
  · rw [List.getElem?_append_left (by simpa using h8), if_neg (by omega)]
    simp [h8, sameAt]
  · obtain rfl : i = 28 := by omega
    rw [List.getElem?_append_right (by simp)]
    simp
theorem fars_get (i : Nat) (h : i < 30) : (rd_T123 farsM (i : Int)).f0 = (fromF i : Int) := by
  unfold rd_T123 farsM
  rw [Int.toNat_natCast, List.getD_eq_getElem?_getD]
  simp [h, farAt]
theorem symS_calls {w : World} {A : Option Addr} {c : Nat} (n : Nat) (z : Int) (hz : z = n) (hr : Kd.C k123 w A samesM.length samesM) (hc : samesM.length ≤ c) :
    Calls Try.prog 71 #[.slice A samesM.length c, .int .i64 z] w fun e w' => e = .returned (.int .i64 ((symS n : Nat) : Int)) ∧ Below w.heap.size w w' := by
  subst hz
  exact block_symbol.calls 30 A c samesM (n : Int) _ w hr hc (symbol_f samesM fromS' n 29 (by simp [samesM]) (by decide) sames_get)
theorem symF_calls {w : World} {A : Option Addr} {c : Nat} (n : Nat) (z : Int) (hz : z = n) (hr : Kd.C k123 w A farsM.length farsM) (hc : farsM.length ≤ c) :
    Calls Try.prog 71 #[.slice A farsM.length c, .int .i64 z] w fun e w' => e = .returned (.int .i64 ((symF n : Nat) : Int)) ∧ Below w.heap.size w w' := by
  subst hz
  exact block_symbol.calls 31 A c farsM (n : Int) _ w hr hc (symbol_f farsM fromF n 30 (by simp [farsM]) (by decide) fars_get)
end Go.Proofs.Ythfkjejjndgajaa
