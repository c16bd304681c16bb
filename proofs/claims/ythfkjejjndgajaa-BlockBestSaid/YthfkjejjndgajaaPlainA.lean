/- Plain laws, no program in sight. -/
/- Plain laws on rows of bits: no program in sight. -/
namespace Rq

/-- The lowest `size` bits of a number, the lowest one first. -/
def bitsOf (n size : Nat) : List Bool := (List.range size).map fun k => n.testBit k
/-- The same with the highest bit first. -/
def codeBits (n size : Nat) : List Bool := (List.range size).map fun k => n.testBit (size - 1 - k)
/-- A number out of bits, the lowest one first. -/
def ofBits : List Bool → Nat
  | [] => 0
  | b :: bs => b.toNat + 2 * ofBits bs
/-- A number out of bits, the highest one first. -/
def ofCode (acc : Nat) : List Bool → Nat
  | [] => acc
  | b :: bs => ofCode (2 * acc + b.toNat) bs
def fill (bs : List Bool) : List Bool := bs ++ List.replicate ((8 - bs.length % 8) % 8) false
def byteAt (bs : List Bool) (i : Nat) : UInt8 := UInt8.ofNat (ofBits ((bs.drop (8 * i)).take 8))
def bytesOf (bs : List Bool) : List UInt8 := (List.range ((bs.length + 7) / 8)).map (byteAt bs)
def bitsIn (b : List UInt8) : List Bool := b.flatMap fun x => bitsOf x.toNat 8

theorem bitsOf_length (n size : Nat) : (bitsOf n size).length = size := by simp [bitsOf]
theorem codeBits_length (n size : Nat) : (codeBits n size).length = size := by simp [codeBits]
theorem bytesOf_length (bs : List Bool) : (bytesOf bs).length = (bs.length + 7) / 8 := by simp [bytesOf]

theorem ofBits_lt (bs : List Bool) : ofBits bs < 2 ^ bs.length := by
  induction bs with
  | nil => simp [ofBits]
  | cons b bs ih => simp only [ofBits, List.length_cons, Nat.pow_succ]; cases b <;> simp <;> omega

theorem ofBits_append (as bs : List Bool) : ofBits (as ++ bs) = ofBits as + 2 ^ as.length * ofBits bs := by
  induction as with
  | nil => simp [ofBits]
  | cons a as ih => simp only [List.cons_append, ofBits, ih, List.length_cons, Nat.pow_succ]; rw [Nat.mul_add, Nat.add_assoc, Nat.mul_comm (2 ^ as.length) 2, Nat.mul_assoc]

theorem bitsOf_succ (n size : Nat) : bitsOf n (size + 1) = n.testBit 0 :: bitsOf (n / 2) size := by
  simp only [bitsOf, List.range_succ_eq_map, List.map_cons, List.map_map]
  congr 1
  apply List.map_congr_left
  intro k _
  simp [Nat.testBit_succ]

theorem bitsOf_snoc (n size : Nat) : bitsOf n (size + 1) = bitsOf n size ++ [n.testBit size] := by
  simp [bitsOf, List.range_succ]

theorem ofBits_bitsOf (size : Nat) : ∀ n, ofBits (bitsOf n size) = n % 2 ^ size := by
  induction size with
  | zero => intro n; simp [bitsOf, ofBits, Nat.mod_one]
  | succ s ih =>
    intro n
    rw [bitsOf_succ, ofBits, ih, Nat.pow_succ]
    have h : (n.testBit 0).toNat = n % 2 := by
      rw [Nat.testBit_zero]; rcases Nat.mod_two_eq_zero_or_one n with h | h <;> simp [h]
    rw [h, Nat.mul_comm (2 ^ s) 2, Nat.mod_mul]

theorem bitsOf_ofBits (bs : List Bool) : bitsOf (ofBits bs) bs.length = bs := by
  induction bs with
  | nil => simp [bitsOf]
  | cons b bs ih =>
    rw [List.length_cons, bitsOf_succ]
    have h1 : (ofBits (b :: bs)).testBit 0 = b := by
      rw [Nat.testBit_zero]; simp only [ofBits]; cases b <;> simp
    have h2 : ofBits (b :: bs) / 2 = ofBits bs := by simp only [ofBits]; cases b <;> simp <;> omega
    rw [h1, h2, ih]

theorem fill_length (bs : List Bool) : (fill bs).length = (bs.length + 7) / 8 * 8 := by
  simp only [fill, List.length_append, List.length_replicate]; omega

theorem bitsIn_length (b : List UInt8) : (bitsIn b).length = 8 * b.length := by
  induction b with
  | nil => simp [bitsIn]
  | cons x b ih =>
    simp only [bitsIn, List.flatMap_cons, List.length_append, bitsOf_length, List.length_cons] at *
    omega

theorem bitsIn_append (a b : List UInt8) : bitsIn (a ++ b) = bitsIn a ++ bitsIn b := by simp [bitsIn]

theorem ofBits_replicate_false (k : Nat) : ofBits (List.replicate k false) = 0 := by
  induction k with
  | zero => rfl
  | succ k ih => simp [List.replicate_succ, ofBits, ih]

theorem byteAt_fill (bs : List Bool) (i : Nat) (_h : i < (bs.length + 7) / 8) : byteAt (fill bs) i = byteAt bs i := by
  unfold byteAt fill
  congr 1
  rw [List.drop_append, List.take_append, ofBits_append]
  have : ofBits (List.take (8 - (List.drop (8 * i) bs).length) (List.drop (8 * i - bs.length) (List.replicate ((8 - bs.length % 8) % 8) false))) = 0 := by
    rw [List.drop_replicate, List.take_replicate, ofBits_replicate_false]
  rw [this]; simp

theorem bytesOf_fill (bs : List Bool) : bytesOf (fill bs) = bytesOf bs := by
  unfold bytesOf
  rw [fill_length]
  have : ((bs.length + 7) / 8 * 8 + 7) / 8 = (bs.length + 7) / 8 := by omega
  rw [this]
  apply List.map_congr_left
  intro i hi
  exact byteAt_fill bs i (by simpa using hi)

theorem byteAt_toNat (bs : List Bool) (i : Nat) : (byteAt bs i).toNat = ofBits ((bs.drop (8 * i)).take 8) := by
  unfold byteAt
  rw [UInt8.toNat_ofNat_of_lt']
  have := ofBits_lt ((bs.drop (8 * i)).take 8)
  have h2 : ((bs.drop (8 * i)).take 8).length ≤ 8 := List.length_take_le _ _
  calc _ < _ := this
    _ ≤ 2 ^ 8 := Nat.pow_le_pow_right (by omega) h2
    _ = UInt8.size := rfl

/-- The bits of the bytes of a row are the row, filled up. -/
theorem bitsIn_bytesOf_whole (m : Nat) : ∀ bs : List Bool, bs.length = 8 * m → bitsIn (bytesOf bs) = bs := by
  intro bs hl
  unfold bytesOf bitsIn
  have e : (bs.length + 7) / 8 = m := by omega
  rw [e]
  clear e
  induction m generalizing bs with
  | zero => simp; exact List.eq_nil_of_length_eq_zero (by omega)
  | succ m ih =>
    rw [List.range_succ_eq_map, List.map_cons, List.flatMap_cons, List.map_map]
    have h1 : bitsOf (byteAt bs 0).toNat 8 = bs.take 8 := by
      rw [byteAt_toNat]
      simp only [Nat.mul_zero, List.drop_zero]
      have h8 : (bs.take 8).length = 8 := by rw [List.length_take]; omega
      have := bitsOf_ofBits (bs.take 8)
      rw [h8] at this; exact this
    have h2 : ∀ i, byteAt bs (i + 1) = byteAt (bs.drop 8) i := by
      intro i; unfold byteAt; rw [List.drop_drop, show 8 * (i + 1) = 8 + 8 * i by omega]
    have h3 : (List.map (byteAt bs ∘ Nat.succ) (List.range m)) = List.map (byteAt (bs.drop 8)) (List.range m) := by
      apply List.map_congr_left; intro i _; simp [h2]
    rw [h1, h3, ih (bs.drop 8) (by rw [List.length_drop]; omega), List.take_append_drop]

theorem bitsIn_bytesOf (bs : List Bool) : bitsIn (bytesOf bs) = fill bs := by
  rw [← bytesOf_fill]
  exact bitsIn_bytesOf_whole ((bs.length + 7) / 8) _ (by rw [fill_length]; omega)

/-- One bit more: at the begin of a byte. -/
theorem bytesOf_snoc_new (bs : List Bool) (c : Bool) (h : bs.length % 8 = 0) : bytesOf (bs ++ [c]) = bytesOf bs ++ [UInt8.ofNat c.toNat] := by
  unfold bytesOf
  have e1 : ((bs ++ [c]).length + 7) / 8 = (bs.length + 7) / 8 + 1 := by simp; omega
  rw [e1, List.range_succ, List.map_append]
  congr 1
  · apply List.map_congr_left
    intro i hi
    have hi : i < (bs.length + 7) / 8 := by simpa using hi
    unfold byteAt
    rw [List.drop_append_of_le_length (by omega), List.take_append_of_le_length (by rw [List.length_drop]; omega)]
  · simp only [List.map_cons, List.map_nil]
    unfold byteAt
    rw [List.drop_append_of_le_length (by omega)]
    have : List.drop (8 * ((bs.length + 7) / 8)) bs = [] := List.drop_eq_nil_of_le (by omega)
    rw [this]; cases c <;> rfl

/-- One bit more: in the last byte. -/
theorem bytesOf_snoc_in (bs : List Bool) (c : Bool) (h : bs.length % 8 ≠ 0) :
    bytesOf (bs ++ [c]) = (bytesOf bs).dropLast ++ [(byteAt bs (bs.length / 8)) + UInt8.ofNat (c.toNat * 2 ^ (bs.length % 8))] := by
  unfold bytesOf
  have e1 : ((bs ++ [c]).length + 7) / 8 = bs.length / 8 + 1 := by simp; omega
  have e2 : (bs.length + 7) / 8 = bs.length / 8 + 1 := by omega
  rw [e1, e2, List.range_succ, List.map_append, List.map_append]
  have h3 : (List.map (byteAt bs) (List.range (bs.length / 8)) ++ List.map (byteAt bs) [bs.length / 8]).dropLast = List.map (byteAt bs) (List.range (bs.length / 8)) := by
    simp
  rw [h3]
  congr 1
  · apply List.map_congr_left
    intro i hi
    have hi : i < bs.length / 8 := by simpa using hi
    unfold byteAt
    rw [List.drop_append_of_le_length (by omega), List.take_append_of_le_length (by rw [List.length_drop]; omega)]
  · simp only [List.map_cons, List.map_nil]
    congr 1
    unfold byteAt
    rw [List.drop_append_of_le_length (by omega)]
    have hl : (List.drop (8 * (bs.length / 8)) bs).length = bs.length % 8 := by rw [List.length_drop]; omega
    rw [List.take_of_length_le (by rw [List.length_append, hl]; simp; omega), List.take_of_length_le (by omega), ofBits_append, hl]
    rw [← UInt8.ofNat_add]
    cases c <;> simp [ofBits]

theorem ofCode_append (as bs : List Bool) (acc : Nat) : ofCode acc (as ++ bs) = ofCode (ofCode acc as) bs := by
  induction as generalizing acc with
  | nil => rfl
  | cons a as ih => simp [ofCode, ih]

theorem codeBits_succ (n size : Nat) : codeBits n (size + 1) = codeBits (n / 2) size ++ [n.testBit 0] := by
  unfold codeBits
  rw [List.range_succ, List.map_append]
  congr 1
  · apply List.map_congr_left
    intro k hk
    have hk : k < size := by simpa using hk
    have : size + 1 - 1 - k = (size - 1 - k) + 1 := by omega
    rw [this, Nat.testBit_succ]
  · simp

theorem codeBits_cons (n size : Nat) : codeBits n (size + 1) = n.testBit size :: codeBits n size := by
  unfold codeBits
  rw [List.range_succ_eq_map, List.map_cons, List.map_map]
  congr 1
  apply List.map_congr_left
  intro k _
  show n.testBit (size + 1 - 1 - (k + 1)) = _
  congr 1
  omega

theorem ofCode_codeBits (size : Nat) : ∀ n, ofCode 0 (codeBits n size) = n % 2 ^ size := by
  induction size with
  | zero => intro n; simp [codeBits, ofCode, Nat.mod_one]
  | succ s ih =>
    intro n
    rw [codeBits_succ, ofCode_append, ih, ofCode, ofCode, Nat.pow_succ, Nat.mul_comm (2 ^ s) 2, Nat.mod_mul, Nat.testBit_zero]
    rcases Nat.mod_two_eq_zero_or_one n with h | h <;> simp [h] <;> omega
end Rq

/- Plain laws on canonical codes. -/
namespace Rq

/-- The first code of length s. -/
def firstC (l : List Nat) : Nat → Nat
  | 0 => 0
  | 1 => 0
  | s + 2 => 2 * (firstC l (s + 1) + l.count (s + 1))
/-- Room (of 2^15) that lengths above 0 and below s take. -/
def roomBelow (l : List Nat) (s : Nat) : Nat := (l.map fun n => if 0 < n ∧ n < s then 2 ^ (15 - n) else 0).sum
def room (l : List Nat) : Nat := (l.map fun n => if 0 < n then 2 ^ (15 - n) else 0).sum
def codeOf (l : List Nat) (i : Nat) : Nat := if l.getD i 0 = 0 then 0 else firstC l (l.getD i 0) + (l.take i).count (l.getD i 0)
def codesM (l : List Nat) : List Nat := (List.range l.length).map (codeOf l)
/-- The places with length s, rising. -/
def placesOf (l : List Nat) (s : Nat) : List Nat := (List.range l.length).filter fun i => l.getD i 0 == s
/-- What reading a symbol says: the place and how many bits; or an error. -/
inductive Sym where
  | got (k used : Nat)
  | torn
  | bad
  deriving DecidableEq

def readS (l : List Nat) : Nat → Nat → Nat → List Bool → Sym
  | 0, _, _, _ => .bad
  | _ + 1, _, _, [] => .torn
  | f + 1, s, code, b :: rest =>
    if code + b.toNat - firstC l s < l.count s then .got ((placesOf l s).getD (code + b.toNat - firstC l s) 0) s
    else readS l f (s + 1) (2 * (code + b.toNat)) rest
def readSym (l : List Nat) (bs : List Bool) : Sym := readS l 15 1 0 bs
/-- chapter 2's Check of lengths that are numbers. -/
structure Right (l : List Nat) : Prop where
  many : l.length ≤ 288
  le : ∀ n ∈ l, n ≤ 15
  fits : room l ≤ 32768

theorem firstC_succ (l : List Nat) (s : Nat) (h : 1 ≤ s) : firstC l (s + 1) = 2 * (firstC l s + l.count s) := by
  obtain ⟨t, rfl⟩ : ∃ t, s = t + 1 := ⟨s - 1, by omega⟩
  rfl

theorem roomBelow_succ (l : List Nat) (s : Nat) (h : 1 ≤ s) : roomBelow l (s + 1) = roomBelow l s + l.count s * 2 ^ (15 - s) := by
  unfold roomBelow
  induction l with
  | nil => simp
  | cons n l ih =>
    simp only [List.map_cons, List.sum_cons, ih, List.count_cons]
    by_cases e : n = s
    · subst e
      simp [show 0 < n by omega, Nat.add_mul]
      omega
    · have : (n == s) = false := by simp [e]
      simp only [this]
      by_cases h1 : 0 < n ∧ n < s
      · rw [if_pos h1, if_pos (by omega)]; simp; omega
      · rw [if_neg h1, if_neg (by omega)]; simp

theorem firstC_room (l : List Nat) (s : Nat) (h : 1 ≤ s) (h15 : s ≤ 15) : firstC l s * 2 ^ (15 - s) = roomBelow l s := by
  induction s with
  | zero => omega
  | succ s ih =>
    by_cases h0 : s = 0
    · subst h0
      show 0 * _ = _
      unfold roomBelow
      simp only [Nat.zero_mul]
      symm
      induction l with
      | nil => rfl
      | cons n l ih2 => simp only [List.map_cons, List.sum_cons]; rw [if_neg (by omega)]; simpa using ih2
    · rw [firstC_succ l s (by omega), roomBelow_succ l s (by omega), ← ih (by omega) (by omega)]
      have e : 15 - s = (15 - (s + 1)) + 1 := by omega
      rw [e, Nat.pow_succ, ← Nat.add_mul]
      generalize 2 ^ (15 - (s + 1)) = p
      generalize firstC l s + List.count s l = c
      rw [Nat.mul_comm 2 c, Nat.mul_assoc, Nat.mul_comm 2 p]

theorem roomBelow_le (l : List Nat) (s : Nat) : roomBelow l s ≤ room l := by
  unfold roomBelow room
  induction l with
  | nil => simp
  | cons n l ih =>
    simp only [List.map_cons, List.sum_cons]
    by_cases h1 : 0 < n ∧ n < s
    · rw [if_pos h1, if_pos h1.1]; omega
    · rw [if_neg h1]; omega

/-- The codes of a length have room. -/
theorem firstC_fits (l : List Nat) (hr : room l ≤ 32768) (s : Nat) (h : 1 ≤ s) (h15 : s ≤ 15) : firstC l s + l.count s ≤ 2 ^ s := by
  have h1 : (firstC l s + l.count s) * 2 ^ (15 - s) ≤ 2 ^ s * 2 ^ (15 - s) := by
    rw [Nat.add_mul, firstC_room l s h h15, ← roomBelow_succ l s h, ← Nat.pow_add, show s + (15 - s) = 15 by omega]
    exact Nat.le_trans (roomBelow_le l _) hr
  exact Nat.le_of_mul_le_mul_right h1 (Nat.two_pow_pos _)

/-- A later length's first code, brought back, lies behind this length's codes. -/
theorem firstC_shift (l : List Nat) (s : Nat) (h : 1 ≤ s) : ∀ d, firstC l s + l.count s ≤ firstC l (s + d + 1) / 2 ^ (d + 1) := by
  intro d
  induction d with
  | zero => rw [Nat.add_zero, firstC_succ l s h]; omega
  | succ d ih =>
    rw [show s + (d + 1) + 1 = (s + d + 1) + 1 by omega, firstC_succ l (s + d + 1) (by omega)]
    refine Nat.le_trans ih ?_
    rw [Nat.pow_succ 2 (d + 1), Nat.mul_comm (2 ^ (d + 1)) 2, ← Nat.div_div_eq_div_mul, Nat.mul_div_cancel_left _ (by omega : 0 < 2)]
    exact Nat.div_le_div_right (by omega)

theorem count_take_lt (l : List Nat) (i : Nat) (h : i < l.length) : (l.take i).count (l.getD i 0) < l.count (l.getD i 0) := by
  have e : l.getD i 0 = l[i] := by simp [List.getD_eq_getElem?_getD, h]
  rw [e]
  have h1 : (l.take (i + 1)).count l[i] = (l.take i).count l[i] + 1 := by
    rw [List.take_succ_eq_append_getElem h, List.count_append]; simp
  have h2 : (l.take (i + 1)).count l[i] ≤ l.count l[i] := List.Sublist.count_le _ (List.take_sublist _ _)
  omega

theorem codeOf_lt (l : List Nat) (hr : Right l) (i : Nat) (h : i < l.length) (hn : 0 < l.getD i 0) : codeOf l i < 2 ^ l.getD i 0 := by
  unfold codeOf
  rw [if_neg (by omega)]
  have h1 := count_take_lt l i h
  have h15 : l.getD i 0 ≤ 15 := by
    have e : l.getD i 0 = l[i] := by simp [List.getD_eq_getElem?_getD, h]
    rw [e]; exact hr.le _ (List.getElem_mem h)
  have := firstC_fits l hr.fits (l.getD i 0) hn h15
  omega

theorem placesOf_length (l : List Nat) (s : Nat) : (placesOf l s).length = l.count s := by
  unfold placesOf
  rw [← List.countP_eq_length_filter]
  have : l = (List.range l.length).map fun i => l.getD i 0 := by
    apply List.ext_getElem
    · simp
    · intro i h1 h2; simp [List.getD_eq_getElem?_getD, h1]
  conv => rhs; rw [this]
  rw [List.count_eq_countP, List.countP_map]
  apply List.countP_congr
  intro i _; simp

theorem placesOf_at (l : List Nat) (s i : Nat) (h : i < l.length) (hs : l.getD i 0 = s) : (placesOf l s).getD ((l.take i).count s) 0 = i := by
  have e1 : List.range l.length = List.range i ++ (i :: (List.range' (i + 1) (l.length - i - 1))) := by
    rw [List.range_eq_range', List.range_eq_range']
    have h1 := List.range'_append_1 (s := 0) (m := i) (n := l.length - i)
    rw [show i + (l.length - i) = l.length by omega, Nat.zero_add] at h1
    rw [← h1]
    congr 1
    obtain ⟨m, hm⟩ : ∃ m, l.length - i = m + 1 := ⟨l.length - i - 1, by omega⟩
    rw [hm, List.range'_succ]; congr 1
  unfold placesOf
  rw [e1, List.filter_append]
  have h2 : (List.filter (fun i => l.getD i 0 == s) (List.range i)).length = (l.take i).count s := by
    rw [← List.countP_eq_length_filter]
    have : l.take i = (List.range i).map fun i => l.getD i 0 := by
      apply List.ext_getElem
      · simp; omega
      · intro k h1 h2
        simp only [List.length_take] at h1
        simp [List.getD_eq_getElem?_getD, show k < l.length by omega]
    conv => rhs; rw [this]
    rw [List.count_eq_countP, List.countP_map]
    apply List.countP_congr
    intro i _; simp
  rw [List.getD_eq_getElem?_getD, List.getElem?_append_right (by omega), h2, Nat.sub_self, List.filter_cons]
  simp only [hs, beq_self_eq_true, if_true]
  rfl

theorem codeOf_prefix (l : List Nat) (i : Nat) (s n : Nat) (hn : l.getD i 0 = n) (h1 : 1 ≤ s) (h2 : s < n) :
    firstC l s + l.count s ≤ codeOf l i / 2 ^ (n - s) := by
  have := firstC_shift l s h1 (n - s - 1)
  rw [show s + (n - s - 1) + 1 = n by omega, show n - s - 1 + 1 = n - s by omega] at this
  refine Nat.le_trans this (Nat.div_le_div_right ?_)
  unfold codeOf; rw [if_neg (by omega), hn]; omega

theorem readS_code (l : List Nat) (hr : Right l) (i : Nat) (hi : i < l.length) (n : Nat) (hn : l.getD i 0 = n) (rest : List Bool) :
    ∀ d s f, 1 ≤ s → s + d = n → d < f →
      readS l f s (2 * (codeOf l i / 2 ^ (d + 1))) (codeBits (codeOf l i) (d + 1) ++ rest) = .got i n := by
  intro d
  have hlt := codeOf_lt l hr i hi
  induction d with
  | zero =>
    intro s f h1 h2 h3
    obtain ⟨f, rfl⟩ : ∃ g, f = g + 1 := ⟨f - 1, by omega⟩
    have hs : s = n := by omega
    subst hs
    rw [codeBits_cons]
    have hc : 2 * (codeOf l i / 2 ^ (0 + 1)) + ((codeOf l i).testBit 0).toNat = codeOf l i := by
      rw [Nat.testBit_zero]
      rcases Nat.mod_two_eq_zero_or_one (codeOf l i) with h | h <;> simp [h] <;> omega
    simp only [List.cons_append, readS, hc]
    have hcode : codeOf l i = firstC l s + (l.take i).count s := by
      unfold codeOf; rw [if_neg (by omega), hn]
    rw [hcode, Nat.add_sub_cancel_left]
    have hlt2 := count_take_lt l i hi
    rw [hn] at hlt2
    rw [if_pos hlt2, placesOf_at l s i hi hn]
  | succ d ih =>
    intro s f h1 h2 h3
    obtain ⟨f, rfl⟩ : ∃ g, f = g + 1 := ⟨f - 1, by omega⟩
    rw [codeBits_cons]
    have hc : 2 * (codeOf l i / 2 ^ (d + 1 + 1)) + ((codeOf l i).testBit (d + 1)).toNat = codeOf l i / 2 ^ (d + 1) := by
      rw [Nat.testBit_eq_decide_div_mod_eq, Nat.pow_succ 2 (d + 1), ← Nat.div_div_eq_div_mul]
      rcases Nat.mod_two_eq_zero_or_one (codeOf l i / 2 ^ (d + 1)) with h | h <;> simp [h] <;> omega
    simp only [List.cons_append, readS, hc]
    have hp := codeOf_prefix l i s n hn h1 (by omega)
    rw [show n - s = d + 1 by omega] at hp
    rw [if_neg (by omega)]
    exact ih (s + 1) f (by omega) (by omega) (by omega)

/-- What is written of a place is read as it. -/
theorem readSym_code (l : List Nat) (hr : Right l) (i : Nat) (hi : i < l.length) (n : Nat) (hn : l.getD i 0 = n) (h0 : 0 < n) (rest : List Bool) :
    readSym l (codeBits (codeOf l i) n ++ rest) = .got i n := by
  have h15 : n ≤ 15 := by
    have e : l.getD i 0 = l[i] := by simp [List.getD_eq_getElem?_getD, hi]
    rw [← hn, e]; exact hr.le _ (List.getElem_mem hi)
  have h := readS_code l hr i hi n hn rest (n - 1) 1 15 (by omega) (by omega) (by omega)
  rw [show n - 1 + 1 = n by omega] at h
  have hlt := codeOf_lt l hr i hi (by omega)
  rw [hn] at hlt
  rw [Nat.div_eq_of_lt hlt] at h
  exact h
end Rq

/- Plain rows of where symbols begin and how many bits are added. -/
namespace Rq
def bitsS (k : Nat) : Nat := k / 4 - 1
def bitsF (k : Nat) : Nat := k / 2 - 1
def fromS : Nat → Nat
  | 0 => 3
  | k + 1 => fromS k + 2 ^ bitsS k
def fromF : Nat → Nat
  | 0 => 1
  | k + 1 => fromF k + 2 ^ bitsF k
theorem fromS_le : ∀ k, k ≤ 28 → fromS k ≤ 1000000 := by decide
theorem fromF_le : ∀ k, k ≤ 30 → fromF k ≤ 1000000 := by decide
theorem bitsS_le (k : Nat) (h : k < 28) : bitsS k ≤ 13 := by unfold bitsS; omega
theorem bitsF_le (k : Nat) (h : k < 30) : bitsF k ≤ 13 := by unfold bitsF; omega
end Rq
namespace Rq
/-- The last place ahead of m where f is n at the most; 0 where there is none. -/
def symTo (f : Nat → Nat) (n : Nat) : Nat → Nat
  | 0 => 0
  | i + 1 => if f i ≤ n then i else symTo f n i
theorem symTo_lt (f : Nat → Nat) (n : Nat) : ∀ m, 0 < m → symTo f n m < m
  | 0, h => absurd h (by decide)
  | m + 1, _ => by
    rw [symTo]
    split
    · omega
    · rcases Nat.eq_zero_or_pos m with h0 | h0
      · subst h0; simp [symTo]
      · have := symTo_lt f n m h0; omega
def fromS' (i : Nat) : Nat := if i = 28 then 258 else fromS i
/-- The symbol of how many bytes, of how far. -/
def symS (n : Nat) : Nat := symTo fromS' n 29
def symF (n : Nat) : Nat := symTo fromF n 30
theorem symS_lt (n : Nat) : symS n < 29 := symTo_lt _ _ _ (by decide)
theorem symF_lt (n : Nat) : symF n < 30 := symTo_lt _ _ _ (by decide)
end Rq

/- Plain runs of lengths. -/
namespace Rq
/-- A run: a symbol, what is added, in how many bits. -/
structure Run where
  sym : Nat
  add : Nat
  bits : Nat
/-- So many more of the same. -/
def restR : Nat → Nat → Nat → List Run
  | 0, _, _ => []
  | k + 1, v, n =>
    if n = 0 then []
    else if v = 0 ∧ 11 ≤ n then ⟨18, min n 138 - 11, 7⟩ :: restR k v (n - min n 138)
    else if v = 0 ∧ 3 ≤ n then ⟨17, min n 10 - 3, 3⟩ :: restR k v (n - min n 10)
    else if v ≠ 0 ∧ 3 ≤ n then ⟨16, min n 6 - 3, 2⟩ :: restR k v (n - min n 6)
    else ⟨v, 0, 0⟩ :: restR k v (n - 1)
/-- How many at the head are the same as the first. -/
def headN : List Nat → Nat
  | [] => 0
  | v :: t => 1 + (t.takeWhile (· == v)).length
def groupR (v n : Nat) : List Run := if v = 0 then restR n v n else ⟨v, 0, 0⟩ :: restR (n - 1) v (n - 1)
def runsT : Nat → List Nat → List Run
  | 0, _ => []
  | _, [] => []
  | k + 1, v :: t => groupR v (headN (v :: t)) ++ runsT k ((v :: t).drop (headN (v :: t)))
def runsM (l : List Nat) : List Run := runsT l.length l
theorem headN_le : ∀ l : List Nat, headN l ≤ l.length
  | [] => Nat.le_refl _
  | v :: t => by have := (List.takeWhile_sublist (p := (· == v)) (l := t)).length_le; simp only [headN, List.length_cons]; omega
theorem take_same (v : Nat) : ∀ (t : List Nat) (j : Nat), j < (t.takeWhile (· == v)).length → t[j]? = some v
  | [], j, h => by simp at h
  | x :: t, j, h => by
    by_cases hx : x = v
    · subst hx
      simp only [List.takeWhile_cons, beq_self_eq_true, if_true, List.length_cons] at h
      cases j with
      | zero => rfl
      | succ j => exact take_same x t j (by omega)
    · have : (x == v) = false := by simpa using hx
      simp [this] at h
theorem take_stop (v : Nat) : ∀ (t : List Nat), (t.takeWhile (· == v)).length < t.length → ∃ y, t[(t.takeWhile (· == v)).length]? = some y ∧ y ≠ v
  | [], h => by simp at h
  | x :: t, h => by
    by_cases hx : x = v
    · subst hx
      simp only [List.takeWhile_cons, beq_self_eq_true, if_true, List.length_cons] at h ⊢
      exact take_stop x t (by omega)
    · have : (x == v) = false := by simpa using hx
      simp only [List.takeWhile_cons, this]
      exact ⟨x, rfl, hx⟩
theorem headN_same (v : Nat) (t : List Nat) (j : Nat) (h : j < headN (v :: t)) : (v :: t)[j]? = some v := by
  cases j with
  | zero => rfl
  | succ j => exact take_same v t j (by simp only [headN] at h; omega)
theorem headN_stop (v : Nat) (t : List Nat) (h : headN (v :: t) < (v :: t).length) : ∃ y, (v :: t)[headN (v :: t)]? = some y ∧ y ≠ v := by
  obtain ⟨y, h1, h2⟩ := take_stop v t (by simp only [headN, List.length_cons] at h; omega)
  refine ⟨y, ?_, h2⟩
  rw [headN, Nat.add_comm 1]; exact h1
end Rq

/- Plain laws on stable sorting by a key. -/
namespace Rq
section
variable {α : Type} (k : α → Nat)

/-- x goes ahead of the first that is not smaller. -/
def ins (x : α) : List α → List α
  | [] => [x]
  | y :: ys => if k y < k x then y :: ins x ys else x :: y :: ys
/-- The stable order. -/
def isort : List α → List α
  | [] => []
  | x :: xs => ins k x (isort xs)
/-- Two rows into one; of alike ones the first row's is first. -/
def mrg : List α → List α → List α
  | [], bs => bs
  | a :: as, [] => a :: as
  | a :: as, b :: bs => if k b < k a then b :: mrg (a :: as) bs else a :: mrg as (b :: bs)
termination_by as bs => as.length + bs.length
def Up (l : List α) : Prop := l.Pairwise fun a b => k a ≤ k b

theorem mrg_nil_left (bs : List α) : mrg k [] bs = bs := by rw [mrg]
theorem mrg_nil_right (as : List α) : mrg k as [] = as := by cases as <;> rw [mrg]
theorem mrg_cons (a : α) (as : List α) (b : α) (bs : List α) : mrg k (a :: as) (b :: bs) = if k b < k a then b :: mrg k (a :: as) bs else a :: mrg k as (b :: bs) := by rw [mrg]

theorem ins_perm (x : α) (l : List α) : (ins k x l).Perm (x :: l) := by
  induction l with
  | nil => exact List.Perm.refl _
  | cons y ys ih =>
    rw [ins]; split
    · exact (List.Perm.cons y ih).trans (List.Perm.swap x y ys)
    · exact List.Perm.refl _
theorem isort_perm (l : List α) : (isort k l).Perm l := by
  induction l with
  | nil => exact List.Perm.refl _
  | cons x xs ih => exact (ins_perm k x _).trans (List.Perm.cons x ih)
theorem ins_up (x : α) (l : List α) (h : Up k l) : Up k (ins k x l) := by
  induction l with
  | nil => simp [ins, Up]
  | cons y ys ih =>
    have hy := List.pairwise_cons.1 h
    rw [ins]; split
    · rename_i hlt
      refine List.pairwise_cons.2 ⟨fun z hz => ?_, ih hy.2⟩
      rcases List.mem_cons.1 ((ins_perm k x ys).mem_iff.1 hz) with rfl | hz
      · omega
      · exact hy.1 z hz
    · rename_i hlt
      refine List.pairwise_cons.2 ⟨fun z hz => ?_, h⟩
      rcases List.mem_cons.1 hz with rfl | hz
      · omega
      · have := hy.1 z hz; omega
theorem isort_up (l : List α) : Up k (isort k l) := by
  induction l with
  | nil => simp [isort, Up]
  | cons x xs ih => exact ins_up k x _ ih
theorem isort_length (l : List α) : (isort k l).length = l.length := (isort_perm k l).length_eq

theorem mrg_perm (as bs : List α) : (mrg k as bs).Perm (as ++ bs) := by
  induction as generalizing bs with
  | nil => rw [mrg_nil_left]; exact List.Perm.refl _
  | cons a as iha =>
    induction bs with
    | nil => rw [mrg_nil_right]; simp
    | cons b bs ihb =>
      rw [mrg_cons]; split
      · exact (List.Perm.cons b ihb).trans (List.perm_middle (l₁ := a :: as)).symm
      · exact List.Perm.cons a (iha (b :: bs))
theorem mrg_length (as bs : List α) : (mrg k as bs).length = as.length + bs.length := by
  rw [(mrg_perm k as bs).length_eq, List.length_append]
theorem mrg_up (as bs : List α) (ha : Up k as) (hb : Up k bs) : Up k (mrg k as bs) := by
  induction as generalizing bs with
  | nil => rw [mrg_nil_left]; exact hb
  | cons a as iha =>
    induction bs with
    | nil => rw [mrg_nil_right]; exact ha
    | cons b bs ihb =>
      have h1 := List.pairwise_cons.1 ha
      have h2 := List.pairwise_cons.1 hb
      rw [mrg_cons]; split
      · rename_i hlt
        refine List.pairwise_cons.2 ⟨fun z hz => ?_, ihb h2.2⟩
        rcases List.mem_append.1 ((mrg_perm k _ _).mem_iff.1 hz) with hz | hz
        · rcases List.mem_cons.1 hz with rfl | hz
          · omega
          · have := h1.1 z hz; omega
        · exact h2.1 z hz
      · rename_i hlt
        refine List.pairwise_cons.2 ⟨fun z hz => ?_, iha _ h1.2 hb⟩
        rcases List.mem_append.1 ((mrg_perm k _ _).mem_iff.1 hz) with hz | hz
        · exact h1.1 z hz
        · rcases List.mem_cons.1 hz with rfl | hz
          · omega
          · have := h2.1 z hz; omega

theorem ins_mrg (x : α) (as bs : List α) : mrg k (ins k x as) bs = ins k x (mrg k as bs) := by
  induction as generalizing bs with
  | nil =>
    rw [mrg_nil_left]
    induction bs with
    | nil => simp [ins, mrg_nil_right]
    | cons b bs ih =>
      simp only [ins] at ih ⊢
      rw [mrg_cons, mrg_nil_left]; split
      · rw [ih]
      · rfl
  | cons a as iha =>
    induction bs with
    | nil => rw [mrg_nil_right, mrg_nil_right]
    | cons b bs ihb =>
      by_cases h1 : k a < k x
      · have e1 : ins k x (a :: as) = a :: ins k x as := by rw [ins, if_pos h1]
        rw [e1] at ihb ⊢
        rw [mrg_cons, mrg_cons]
        by_cases h2 : k b < k a
        · rw [if_pos h2, if_pos h2, ihb, ins, if_pos (by omega)]
        · rw [if_neg h2, if_neg h2, iha, ins, if_pos h1]
      · have e1 : ins k x (a :: as) = x :: a :: as := by rw [ins, if_neg h1]
        rw [e1] at ihb ⊢
        rw [mrg_cons]
        by_cases h2 : k b < k x
        · rw [if_pos h2, ihb, mrg_cons, if_pos (by omega), ins, if_pos h2]
        · rw [if_neg h2]
          rw [mrg_cons]
          by_cases h3 : k b < k a
          · rw [if_pos h3, ins, if_neg h2]
          · rw [if_neg h3, ins, if_neg h1]

/-- Sorted apart and put together is sorted together. -/
theorem isort_append (as bs : List α) : isort k (as ++ bs) = mrg k (isort k as) (isort k bs) := by
  induction as with
  | nil => simp [isort, mrg_nil_left]
  | cons a as ih => rw [List.cons_append, isort, ih, isort, ins_mrg]

theorem ins_of_le (x : α) (l : List α) (h : ∀ y ∈ l, k x ≤ k y) : ins k x l = x :: l := by
  cases l with
  | nil => rfl
  | cons y ys => rw [ins, if_neg (by have := h y List.mem_cons_self; omega)]
theorem isort_of_up (l : List α) (h : Up k l) : isort k l = l := by
  induction l with
  | nil => rfl
  | cons x xs ih =>
    have h1 := List.pairwise_cons.1 h
    rw [isort, ih h1.2, ins_of_le k x xs h1.1]

/-- Where two rows are cut so that nothing of the one's end goes ahead of the other's begin. -/
theorem mrg_cut (a1 a2 b1 b2 : List α) (hab : ∀ x ∈ a2, ∀ y ∈ b1, k y < k x) (hba : ∀ x ∈ a1, ∀ y ∈ b2, k x ≤ k y) :
    mrg k (a1 ++ a2) (b1 ++ b2) = mrg k a1 b1 ++ mrg k a2 b2 := by
  induction a1 generalizing b1 with
  | nil =>
    simp only [List.nil_append, mrg_nil_left]
    induction b1 with
    | nil => rfl
    | cons b b1 ih =>
      cases a2 with
      | nil => simp [mrg_nil_left]
      | cons a a2 =>
        rw [List.cons_append, mrg_cons, if_pos (hab a List.mem_cons_self b List.mem_cons_self), List.cons_append]
        rw [ih (fun x hx y hy => hab x hx y (List.mem_cons_of_mem _ hy))]
  | cons a a1 iha =>
    induction b1 with
    | nil =>
      rw [mrg_nil_right, List.nil_append]
      have := iha [] (fun x hx y hy => by cases hy) (fun x hx => hba x (List.mem_cons_of_mem _ hx))
      rw [mrg_nil_right, List.nil_append] at this
      cases b2 with
      | nil => rw [mrg_nil_right, mrg_nil_right]
      | cons b b2 =>
        rw [List.cons_append, mrg_cons, if_neg (by have := hba a List.mem_cons_self b List.mem_cons_self; omega), this, List.cons_append]
    | cons b b1 ihb =>
      rw [List.cons_append, List.cons_append, mrg_cons, mrg_cons]
      split
      · rename_i hlt
        have := ihb (fun x hx y hy => hab x hx y (List.mem_cons_of_mem _ hy))
        rw [List.cons_append] at this
        rw [this, List.cons_append]
      · rename_i hlt
        have := iha (b :: b1) hab (fun x hx => hba x (List.mem_cons_of_mem _ hx))
        rw [List.cons_append] at this
        rw [this, List.cons_append]

/-- A prefix of two rows put together. -/
theorem mrg_take (as bs : List α) (ha : Up k as) (hb : Up k bs) : ∀ m, m ≤ as.length + bs.length →
    ∃ c p, c + p = m ∧ c ≤ as.length ∧ p ≤ bs.length ∧ ((mrg k as bs).take m).Perm (as.take c ++ bs.take p) ∧
      (∀ i j (hi : i < as.length) (hj : j < bs.length), j < p → k as[i] < k bs[j] → i < c) := by
  induction as generalizing bs with
  | nil =>
    intro m hm
    exact ⟨0, m, by omega, by simp, by simpa using hm, by rw [mrg_nil_left]; simp, fun i j hi => by simp at hi⟩
  | cons a as iha =>
    induction bs with
    | nil =>
      intro m hm
      exact ⟨m, 0, by omega, by simpa using hm, by simp, by rw [mrg_nil_right]; simp, fun i j hi hj => by simp at hj⟩
    | cons b bs ihb =>
      intro m hm
      have h1 := List.pairwise_cons.1 ha
      have h2 := List.pairwise_cons.1 hb
      cases m with
      | zero => exact ⟨0, 0, rfl, by simp, by simp, by simp, fun i j _ _ h => by omega⟩
      | succ m =>
        simp only [List.length_cons] at hm
        rw [mrg_cons]; split
        · rename_i hlt
          obtain ⟨c, p, e, hc, hp, hperm, hord⟩ := ihb h2.2 m (by simp only [List.length_cons]; omega)
          refine ⟨c, p + 1, by omega, hc, by simp only [List.length_cons]; omega, ?_, ?_⟩
          · rw [List.take_succ_cons, List.take_succ_cons]
            exact (List.Perm.cons b hperm).trans (List.perm_middle).symm
          · intro i j hi hj hjp hw
            cases j with
            | zero =>
              simp only [List.getElem_cons_zero] at hw
              cases i with
              | zero => simp only [List.getElem_cons_zero] at hw; omega
              | succ i =>
                simp only [List.getElem_cons_succ] at hw
                have hi' : i < as.length := by simpa using hi
                have := h1.1 as[i] (List.getElem_mem hi')
                omega
            | succ j =>
              exact hord i j hi (by simpa using hj) (by omega) (by simpa using hw)
        · rename_i hlt
          obtain ⟨c, p, e, hc, hp, hperm, hord⟩ := iha (b :: bs) h1.2 hb m (by simp only [List.length_cons]; omega)
          refine ⟨c + 1, p, by omega, by simp only [List.length_cons]; omega, hp, ?_, ?_⟩
          · rw [List.take_succ_cons, List.take_succ_cons]
            exact List.Perm.cons a hperm
          · intro i j hi hj hjp hw
            cases i with
            | zero => omega
            | succ i =>
              have := hord i j (by simpa using hi) hj hjp (by simpa using hw)
              omega
end
end Rq

/- Plain tokens, and how often each symbol is in them. -/
namespace Rq
/-- A token: a byte (same 0), or so many bytes that stood so far ahead. -/
structure Tok where
  b : Nat
  same : Nat
  far : Nat
  deriving Inhabited
structure TokOk (t : Tok) : Prop where
  b : t.b ≤ 255
  same : t.same ≤ 258
  far : t.far ≤ 3000
def bump (l : List Nat) (i : Nat) : List Nat := l.set i (l.getD i 0 + 1)
theorem bump_len (l : List Nat) (i : Nat) : (bump l i).length = l.length := by simp [bump]
theorem bump_le (l : List Nat) (i c : Nat) (h : ∀ x ∈ l, x ≤ c) : ∀ x ∈ bump l i, x ≤ c + 1 := by
  intro x hx
  unfold bump at hx
  rcases List.mem_or_eq_of_mem_set hx with h1 | h1
  · have := h x h1; omega
  · rw [h1, List.getD_eq_getElem?_getD]
    rcases Nat.lt_or_ge i l.length with hi | hi
    · rw [List.getElem?_eq_getElem hi]; have := h _ (List.getElem_mem hi); simp; omega
    · rw [List.getElem?_eq_none hi]; simp
def litStep (l : List Nat) (t : Tok) : List Nat := if t.same = 0 then bump l t.b else bump l (257 + symS t.same)
def farStep (l : List Nat) (t : Tok) : List Nat := if t.same = 0 then l else bump l (symF t.far)
def litTo (ts : List Tok) (k : Nat) : List Nat := (ts.take k).foldl litStep (List.replicate 286 0)
def farTo (ts : List Tok) (k : Nat) : List Nat := (ts.take k).foldl farStep (List.replicate 30 0)
def litCounts (ts : List Tok) : List Nat := bump (litTo ts ts.length) 256
def farCounts (ts : List Tok) : List Nat := farTo ts ts.length
theorem litTo_succ (ts : List Tok) (k : Nat) (t : Tok) (h : ts[k]? = some t) : litTo ts (k + 1) = litStep (litTo ts k) t := by
  unfold litTo
  rw [List.take_add_one, h, Option.toList_some, List.foldl_append]; rfl
theorem farTo_succ (ts : List Tok) (k : Nat) (t : Tok) (h : ts[k]? = some t) : farTo ts (k + 1) = farStep (farTo ts k) t := by
  unfold farTo
  rw [List.take_add_one, h, Option.toList_some, List.foldl_append]; rfl
theorem litStep_len (l : List Nat) (t : Tok) : (litStep l t).length = l.length := by unfold litStep; split <;> exact bump_len _ _
theorem farStep_len (l : List Nat) (t : Tok) : (farStep l t).length = l.length := by unfold farStep; split; rfl; exact bump_len _ _
theorem fold_keep {α β : Type} (P : α → Prop) (f : α → β → α) (h : ∀ a b, P a → P (f a b)) : ∀ (l : List β) (a : α), P a → P (l.foldl f a)
  | [], _, ha => ha
  | b :: l, a, ha => fold_keep P f h l (f a b) (h a b ha)
theorem litTo_len (ts : List Tok) (k : Nat) : (litTo ts k).length = 286 := fold_keep (fun l : List Nat => l.length = 286) _ (fun l t h => by rw [litStep_len]; exact h) _ _ List.length_replicate
theorem farTo_len (ts : List Tok) (k : Nat) : (farTo ts k).length = 30 := fold_keep (fun l : List Nat => l.length = 30) _ (fun l t h => by rw [farStep_len]; exact h) _ _ List.length_replicate
theorem fold_le (f : List Nat → Tok → List Nat) (h : ∀ l t c, (∀ x ∈ l, x ≤ c) → ∀ x ∈ f l t, x ≤ c + 1) : ∀ (ts : List Tok) (l : List Nat) (c : Nat), (∀ x ∈ l, x ≤ c) → ∀ x ∈ ts.foldl f l, x ≤ c + ts.length
  | [], _, _, hl => hl
  | t :: ts, l, c, hl => by
    intro x hx
    have := fold_le f h ts (f l t) (c + 1) (h l t c hl) x hx
    rw [List.length_cons]; omega
theorem litTo_le (ts : List Tok) (k : Nat) : ∀ x ∈ litTo ts k, x ≤ ts.length := by
  intro x hx
  have := fold_le litStep (fun l t c h => by unfold litStep; split <;> exact bump_le _ _ _ h) (ts.take k) (List.replicate 286 0) 0 (fun x hx => Nat.le_of_eq (List.eq_of_mem_replicate hx)) x hx
  rw [List.length_take] at this; omega
theorem farTo_le (ts : List Tok) (k : Nat) : ∀ x ∈ farTo ts k, x ≤ ts.length := by
  intro x hx
  have := fold_le farStep (fun l t c h => by
    unfold farStep; split
    · intro x hx; have := h x hx; omega
    · exact bump_le _ _ _ h) (ts.take k) (List.replicate 30 0) 0 (fun x hx => Nat.le_of_eq (List.eq_of_mem_replicate hx)) x hx
  rw [List.length_take] at this; omega
theorem getD_le (l : List Nat) (c i : Nat) (h : ∀ x ∈ l, x ≤ c) : l.getD i 0 ≤ c := by
  rw [List.getD_eq_getElem?_getD]
  rcases Nat.lt_or_ge i l.length with hi | hi
  · rw [List.getElem?_eq_getElem hi]; exact h _ (List.getElem_mem hi)
  · rw [List.getElem?_eq_none hi]; exact Nat.zero_le _
end Rq

/- Plain laws on the shortest codes by packing pairs. -/
namespace Rq

abbrev Pk := Nat × List Nat
def pkey (p : Pk) : Nat := p.1
def bothM (a b : Pk) : Pk := (a.1 + b.1, List.zipWith (· + ·) a.2 b.2)
def pairsM : List Pk → List Pk
  | a :: b :: r => bothM a b :: pairsM r
  | _ => []
def unitM (n i : Nat) : List Nat := (List.replicate n 0).set i 1
/-- Each that is wanted alone. -/
def onesM (l : List Nat) : List Pk := (List.range l.length).filterMap fun i => if 0 < l.getD i 0 then some (l.getD i 0, unitM l.length i) else none
def rowM (one : List Pk) : Nat → List Pk
  | 0 => one
  | t + 1 => isort pkey (one ++ pairsM (rowM one t))
def sumAt (ps : List Pk) (x : Nat) : Nat := (ps.map fun p => p.2.getD x 0).sum
def weighM (l : List Nat) (most : Nat) : List Nat :=
  let one := onesM l
  if one.length = 0 then List.replicate l.length 0
  else if one.length = 1 then (one.getD 0 (0, [])).2
  else (List.range l.length).map (sumAt ((rowM (isort pkey one) (most - 1)).take (2 * one.length - 2)))

theorem pairsM_length : ∀ l : List Pk, (pairsM l).length = l.length / 2
  | [] => rfl
  | [_] => by simp [pairsM]
  | a :: b :: r => by rw [pairsM, List.length_cons, pairsM_length r]; simp only [List.length_cons]; omega

theorem pairsM_get : ∀ (l : List Pk) (i : Nat) (h : 2 * i + 1 < l.length), (pairsM l)[i]? = some (bothM l[2 * i] l[2 * i + 1])
  | [], i, h => by simp at h
  | [_], i, h => by simp at h
  | a :: b :: r, 0, _ => rfl
  | a :: b :: r, i + 1, h => by
    simp only [List.length_cons] at h
    rw [pairsM, List.getElem?_cons_succ, pairsM_get r i (by omega)]
    simp only [show 2 * (i + 1) = (2 * i) + 1 + 1 by omega, List.getElem_cons_succ]

theorem pairsM_take : ∀ (l : List Pk) (p : Nat), (pairsM l).take p = pairsM (l.take (2 * p))
  | l, 0 => by simp [pairsM]
  | [], p + 1 => by simp [pairsM]
  | [a], p + 1 => by rw [show 2 * (p + 1) = (2 * p) + 1 + 1 by omega]; simp [pairsM]
  | a :: b :: r, p + 1 => by
    rw [show 2 * (p + 1) = (2 * p) + 1 + 1 by omega, List.take_succ_cons, List.take_succ_cons, pairsM, pairsM, List.take_succ_cons, pairsM_take r p]

theorem pairsM_up (l : List Pk) (h : Up pkey l) : Up pkey (pairsM l) := by
  unfold Up at *
  rw [List.pairwise_iff_getElem] at *
  intro i j hi hj hij
  rw [pairsM_length] at hi hj
  have e1 := pairsM_get l i (by omega)
  have e2 := pairsM_get l j (by omega)
  rw [List.getElem?_eq_getElem (by rw [pairsM_length]; omega)] at e1 e2
  injection e1 with e1; injection e2 with e2
  rw [e1, e2]
  have := h (2 * i) (2 * j) (by omega) (by omega) (by omega)
  have := h (2 * i + 1) (2 * j + 1) (by omega) (by omega) (by omega)
  simp only [pkey, bothM] at *
  omega

/-- All rows of numbers are as long as there are places. -/
def Wide (N : Nat) (l : List Pk) : Prop := ∀ p ∈ l, p.2.length = N

theorem pairsM_wide (N : Nat) : ∀ l : List Pk, Wide N l → Wide N (pairsM l)
  | [], h => h
  | [_], _ => fun p hp => by simp [pairsM] at hp
  | a :: b :: r, h => by
    intro p hp
    rw [pairsM] at hp
    rcases List.mem_cons.1 hp with rfl | hp
    · have h1 := h a (by simp)
      have h2 := h b (by simp)
      simp [bothM, h1, h2]
    · exact pairsM_wide N r (fun q hq => h q (by simp [hq])) p hp

theorem sumAt_append (a b : List Pk) (x : Nat) : sumAt (a ++ b) x = sumAt a x + sumAt b x := by simp [sumAt]
theorem sumAt_perm {a b : List Pk} (h : a.Perm b) (x : Nat) : sumAt a x = sumAt b x := by
  unfold sumAt; exact (h.map _).sum_nat

theorem sumAt_pairs (N : Nat) : ∀ (l : List Pk), Wide N l → (∃ q, l.length = 2 * q) → ∀ x, sumAt (pairsM l) x = sumAt l x
  | [], _, _, _ => rfl
  | [_], _, ⟨q, hq⟩, _ => by simp at hq; omega
  | a :: b :: r, h, ⟨q, hq⟩, x => by
    have ih := sumAt_pairs N r (fun p hp => h p (by simp [hp])) ⟨q - 1, by simp at hq; omega⟩ x
    unfold sumAt at *
    rw [pairsM, List.map_cons, List.sum_cons, ih, List.map_cons, List.map_cons, List.sum_cons, List.sum_cons]
    have e : (bothM a b).2.getD x 0 = a.2.getD x 0 + b.2.getD x 0 := by
      have h1 := h a (by simp)
      have h2 := h b (by simp)
      simp only [bothM, List.getD_eq_getElem?_getD, List.getElem?_zipWith]
      by_cases hx : x < N
      · rw [List.getElem?_eq_getElem (by omega), List.getElem?_eq_getElem (by omega)]; simp
      · rw [List.getElem?_eq_none (by omega), List.getElem?_eq_none (by omega)]; simp
    rw [e]; omega

structure Ones (N : Nat) (one : List Pk) : Prop where
  up : Up pkey one
  wide : Wide N one
  pos : ∀ p ∈ one, 0 < p.1

theorem rowM_good {N : Nat} {one : List Pk} (h : Ones N one) : ∀ t, Ones N (rowM one t)
  | 0 => h
  | t + 1 => by
    have ih := rowM_good h t
    refine ⟨isort_up _ _, ?_, ?_⟩
    · intro p hp
      rcases List.mem_append.1 ((isort_perm _ _).mem_iff.1 hp) with hp | hp
      · exact h.wide p hp
      · exact pairsM_wide N _ ih.wide p hp
    · intro p hp
      rcases List.mem_append.1 ((isort_perm _ _).mem_iff.1 hp) with hp | hp
      · exact h.pos p hp
      · obtain ⟨i, hi, rfl⟩ := List.getElem_of_mem hp
        rw [pairsM_length] at hi
        have e := pairsM_get (rowM one t) i (by omega)
        rw [List.getElem?_eq_getElem (by rw [pairsM_length]; omega)] at e
        injection e with e
        rw [e]
        have := ih.pos (rowM one t)[2 * i] (List.getElem_mem _)
        simp only [bothM]; omega

theorem rowM_length (one : List Pk) (t : Nat) : (rowM one (t + 1)).length = one.length + (rowM one t).length / 2 := by
  rw [rowM, isort_length, List.length_append, pairsM_length]

theorem rowM_mrg {N : Nat} {one : List Pk} (h : Ones N one) (t : Nat) : rowM one (t + 1) = mrg pkey one (pairsM (rowM one t)) := by
  rw [rowM, isort_append, isort_of_up _ _ h.up, isort_of_up _ _ (pairsM_up _ (rowM_good h t).up)]

/-- How many of the alone ones stand in the first m of a row, level by level; from the top on. -/
inductive Picks (one : List Pk) : Nat → Nat → List Nat → Prop
  | base (m : Nat) (h : m ≤ one.length) : Picks one 0 m [m]
  | step (t m c p : Nat) (cs : List Nat) (e : c + p = m) (hc : c ≤ one.length) (h : Picks one t (2 * p) cs) (hd : cs.headD 0 ≤ c) : Picks one (t + 1) m (c :: cs)

theorem Picks.ne {one : List Pk} {t m : Nat} {cs : List Nat} (h : Picks one t m cs) : cs.length = t + 1 := by
  induction h with
  | base => rfl
  | step _ _ _ _ _ _ _ _ _ ih => simp [ih]

theorem picks_of {N : Nat} {one : List Pk} (h : Ones N one) : ∀ t m, m ≤ (rowM one t).length →
    ∃ cs, Picks one t m cs ∧ (∀ x, sumAt ((rowM one t).take m) x = (cs.map fun c => sumAt (one.take c) x).sum) ∧
      (∀ i (hi : i < one.length), i < cs.headD 0 → ∃ j, ∃ hj : j < (rowM one t).length, j < m ∧ pkey one[i] ≤ pkey (rowM one t)[j]) := by
  intro t
  induction t with
  | zero =>
    intro m hm
    exact ⟨[m], .base m hm, fun x => by simp [rowM], fun i hi hc => ⟨i, hi, by simpa using hc, Nat.le_refl _⟩⟩
  | succ t ih =>
    intro m hm
    have hg := rowM_good h t
    rw [rowM_length] at hm
    obtain ⟨c, p, e, hc, hp, hperm, hord⟩ := mrg_take pkey one (pairsM (rowM one t)) h.up (pairsM_up _ hg.up) m (by rw [pairsM_length]; exact hm)
    rw [pairsM_length] at hp
    obtain ⟨cs, hcs, hsum, hhead⟩ := ih (2 * p) (by omega)
    have hmono : cs.headD 0 ≤ c := by
      rcases Nat.lt_or_ge c (cs.headD 0) with hlt | hge
      · exfalso
        -- one[c] is among the first 2p of the lower row, so lighter than the last pair
        have hcl : cs.headD 0 ≤ one.length := by
          cases hcs with
          | base _ h => simpa using h
          | step _ _ _ _ _ _ h _ _ => simpa using h
        obtain ⟨j, hj, hjm, hle⟩ := hhead c (by omega) hlt
        have hpp : 0 < p := by omega
        have hup := hg.up
        unfold Up at hup
        rw [List.pairwise_iff_getElem] at hup
        have hlast : pkey (rowM one t)[j] ≤ pkey ((rowM one t)[2 * p - 1]'(by omega)) := by
          rcases Nat.lt_or_ge j (2 * p - 1) with h1 | h1
          · exact hup j (2 * p - 1) hj (by omega) h1
          · have : j = 2 * p - 1 := by omega
            subst this; exact Nat.le_refl _
        have eg := pairsM_get (rowM one t) (p - 1) (by omega)
        rw [List.getElem?_eq_getElem (by rw [pairsM_length]; omega)] at eg
        injection eg with eg
        have hpos := hg.pos ((rowM one t)[2 * (p - 1)]'(by omega)) (List.getElem_mem _)
        have hw : pkey (one[c]'(by omega)) < pkey ((pairsM (rowM one t))[p - 1]'(by rw [pairsM_length]; omega)) := by
          rw [eg]
          simp only [pkey, bothM] at *
          simp only [show 2 * (p - 1) + 1 = 2 * p - 1 by omega]
          omega
        have := hord c (p - 1) (by omega) (by rw [pairsM_length]; omega) (by omega) hw
        omega
      · exact hge
    refine ⟨c :: cs, .step t m c p cs e hc hcs hmono, ?_, ?_⟩
    · intro x
      rw [rowM_mrg h, sumAt_perm hperm, sumAt_append, List.map_cons, List.sum_cons, pairsM_take, ← hsum x]
      congr 1
      refine sumAt_pairs N _ (fun q hq => hg.wide q (List.mem_of_mem_take hq)) ⟨p, ?_⟩ x
      rw [List.length_take]; omega
    · intro i hi hic
      simp only [List.headD_cons] at hic
      have hmem : one[i] ∈ (rowM one (t + 1)).take m := by
        rw [rowM_mrg h, hperm.mem_iff]
        exact List.mem_append_left _ (List.mem_iff_getElem.2 ⟨i, by rw [List.length_take]; omega, by rw [List.getElem_take]⟩)
      obtain ⟨j, hj, ej⟩ := List.getElem_of_mem hmem
      rw [List.length_take] at hj
      rw [List.getElem_take] at ej
      exact ⟨j, by omega, by omega, by rw [ej]; exact Nat.le_refl _⟩

/-- Falling counts, and what they weigh at their levels. -/
theorem Picks.falls {one : List Pk} {t m : Nat} {cs : List Nat} (h : Picks one t m cs) : cs.Pairwise (fun a b => b ≤ a) := by
  induction h with
  | base => simp
  | step t m c p cs e hc h hd ih =>
    refine List.pairwise_cons.2 ⟨fun z hz => ?_, ih⟩
    cases cs with
    | nil => cases hz
    | cons d ds =>
      simp only [List.headD_cons] at hd
      rcases List.mem_cons.1 hz with rfl | hz
      · exact hd
      · have := (List.pairwise_cons.1 ih).1 z hz; omega
theorem Picks.le {one : List Pk} {t m : Nat} {cs : List Nat} (h : Picks one t m cs) : ∀ c ∈ cs, c ≤ one.length := by
  induction h with
  | base m h => intro c hc; simp at hc; omega
  | step t m c p cs e hc h hd ih =>
    intro z hz
    rcases List.mem_cons.1 hz with rfl | hz
    · exact hc
    · exact ih z hz

/-- The levels' widths: level 0 (the top) has width 2^t. -/
def wide2 : List Nat → Nat
  | [] => 0
  | c :: cs => c * 2 ^ cs.length + wide2 cs
theorem Picks.width {one : List Pk} {t m : Nat} {cs : List Nat} (h : Picks one t m cs) : wide2 cs = m * 2 ^ t := by
  induction h with
  | base m h => simp [wide2]
  | step t m c p cs e hc h hd ih =>
    rw [wide2, ih, h.ne, ← e, Nat.add_mul, Nat.pow_succ]
    congr 1
    rw [Nat.mul_comm 2 p, Nat.mul_assoc, Nat.mul_comm 2]

/-- How many levels have more than r. -/
def lenAt (cs : List Nat) (r : Nat) : Nat := cs.countP fun c => decide (r < c)
def restAt (t : Nat) (k : Nat) : Nat := 2 ^ t - 2 ^ (t - k)

theorem falls_zero {cs : List Nat} {r : Nat} (h : ∀ z ∈ cs, z ≤ r) : lenAt cs r = 0 := by
  unfold lenAt
  rw [List.countP_eq_zero]
  intro z hz; have := h z hz; simp; omega

theorem falls_width (cs : List Nat) (hf : cs.Pairwise (fun a b => b ≤ a)) (r : Nat) :
    2 ^ cs.length = 2 ^ (cs.length - lenAt cs r) + (wide2 (cs.map fun c => if r < c then 1 else 0)) ∧ lenAt cs r ≤ cs.length := by
  induction cs with
  | nil => simp [lenAt, wide2]
  | cons c cs ih =>
    have h1 := List.pairwise_cons.1 hf
    obtain ⟨i1, i2⟩ := ih h1.2
    by_cases hr : r < c
    · have e : lenAt (c :: cs) r = lenAt cs r + 1 := by unfold lenAt; rw [List.countP_cons]; simp [hr]
      rw [e, List.map_cons, if_pos hr, wide2, List.length_map, List.length_cons, Nat.pow_succ]
      rw [show cs.length + 1 - (lenAt cs r + 1) = cs.length - lenAt cs r by omega]
      exact ⟨by omega, by omega⟩
    · have e0 : lenAt cs r = 0 := falls_zero (fun z hz => by have := h1.1 z hz; omega)
      have e : lenAt (c :: cs) r = 0 := by unfold lenAt at *; rw [List.countP_cons, e0]; simp [hr]
      rw [e0] at i1
      rw [e, List.map_cons, if_neg hr, wide2, List.length_cons]
      simp only [Nat.sub_zero, Nat.zero_mul, Nat.zero_add] at *
      exact ⟨by omega, by omega⟩

theorem wide2_add (a b : List Nat) (h : a.length = b.length) : wide2 (List.zipWith (· + ·) a b) = wide2 a + wide2 b := by
  induction a generalizing b with
  | nil => cases b <;> simp_all [wide2]
  | cons x a ih =>
    cases b with
    | nil => simp at h
    | cons y b =>
      simp only [List.length_cons, Nat.add_right_cancel_iff] at h
      simp only [List.zipWith_cons_cons, wide2, ih b h, List.length_zipWith, h, Nat.min_self, Nat.add_mul]
      omega

/-- Sum over the first n of what the levels' widths are. -/
theorem width_sum (cs : List Nat) (n : Nat) : ((List.range n).map fun r => wide2 (cs.map fun c => if r < c then 1 else 0)).sum = wide2 (cs.map fun c => min c n) := by
  induction n with
  | zero =>
    simp only [List.range_zero, List.map_nil, List.sum_nil]
    symm
    induction cs with
    | nil => rfl
    | cons c cs ih => simp only [Nat.min_zero] at ih ⊢; simp [wide2, ih]
  | succ n ih =>
    rw [List.range_succ, List.map_append, List.sum_append, ih]
    simp only [List.map_cons, List.map_nil, List.sum_cons, List.sum_nil, Nat.add_zero]
    rw [← wide2_add _ _ (by simp), List.zipWith_map, List.zipWith_self]
    congr 1
    apply List.map_congr_left
    intro c _
    split <;> omega

/-- Kraft's sum: the lengths of all are just full. -/
theorem picks_full {one : List Pk} {t : Nat} {cs : List Nat} (h : Picks one t (2 * one.length - 2) cs) (h2 : 2 ≤ one.length) :
    ((List.range one.length).map fun r => 2 ^ (t + 1 - lenAt cs r)).sum = 2 ^ (t + 1) := by
  have hl := h.ne
  have hw := h.width
  have hs := width_sum cs one.length
  have hmin : cs.map (fun c => min c one.length) = cs := by
    conv => rhs; rw [← List.map_id cs]
    apply List.map_congr_left
    intro c hc; have := h.le c hc; simp; omega
  rw [hmin, hw] at hs
  have hadd : ∀ n, ((List.range n).map fun r => 2 ^ (t + 1 - lenAt cs r)).sum + ((List.range n).map fun r => wide2 (cs.map fun c => if r < c then 1 else 0)).sum = n * 2 ^ (t + 1) := by
    intro n
    induction n with
    | zero => simp
    | succ n ih =>
      rw [List.range_succ, List.map_append, List.map_append, List.sum_append, List.sum_append]
      simp only [List.map_cons, List.map_nil, List.sum_cons, List.sum_nil, Nat.add_zero]
      have := (falls_width cs h.falls n).1
      rw [hl] at this
      rw [Nat.add_mul, Nat.one_mul]
      omega
  have := hadd one.length
  rw [hs] at this
  have e : (2 * one.length - 2) * 2 ^ t = one.length * 2 ^ (t + 1) - 2 ^ (t + 1) := by
    rw [Nat.pow_succ, Nat.sub_mul]
    congr 1
    · rw [Nat.mul_comm 2 one.length, Nat.mul_assoc, Nat.mul_comm 2]
    · rw [Nat.mul_comm]
  have hge : 2 ^ (t + 1) ≤ one.length * 2 ^ (t + 1) := Nat.le_mul_of_pos_left _ (by omega)
  omega

theorem rowM_long (one : List Pk) (hn : 1 ≤ one.length) : ∀ t, (2 * one.length - 1) - (rowM one t).length ≤ (one.length - 1) / 2 ^ t
  | 0 => by simp only [rowM, Nat.pow_zero, Nat.div_one]; omega
  | t + 1 => by
    have ih := rowM_long one hn t
    rw [rowM_length, Nat.pow_succ, ← Nat.div_div_eq_div_mul]
    generalize (one.length - 1) / 2 ^ t = q at *
    omega

/-- The top row has enough. -/
theorem rowM_enough (one : List Pk) (t : Nat) (hn : 1 ≤ one.length) (h : one.length ≤ 2 ^ (t + 1)) : 2 * one.length - 2 ≤ (rowM one t).length := by
  have := rowM_long one hn t
  have h2 : (one.length - 1) / 2 ^ t ≤ 1 := by
    have : (one.length - 1) / 2 ^ t < 2 := by
      rw [Nat.div_lt_iff_lt_mul (Nat.two_pow_pos t)]
      rw [Nat.pow_succ] at h; omega
    omega
  omega
end Rq

/- More plain laws on the packing of pairs, for the walk. -/
namespace Rq

theorem ins_map {α β : Type} (f : α → β) (k : α → Nat) (k' : β → Nat) (h : ∀ x, k' (f x) = k x) (x : α) : ∀ l : List α, ins k' (f x) (l.map f) = (ins k x l).map f
  | [] => by simp [ins]
  | y :: l => by
    simp only [List.map_cons, ins, h]
    split <;> simp [ins_map f k k' h x l]
theorem isort_map {α β : Type} (f : α → β) (k : α → Nat) (k' : β → Nat) (h : ∀ x, k' (f x) = k x) : ∀ l : List α, isort k' (l.map f) = (isort k l).map f
  | [] => rfl
  | x :: l => by simp only [List.map_cons, isort]; rw [isort_map f k k' h l, ins_map f k k' h]

/-- Weights and numbers are bounded. -/
def Bnd (c b : Nat) (l : List Pk) : Prop := ∀ p ∈ l, p.1 ≤ c ∧ ∀ x ∈ p.2, x ≤ b
theorem Bnd.mono {c b c' b' : Nat} {l : List Pk} (h : Bnd c b l) (hc : c ≤ c') (hb : b ≤ b') : Bnd c' b' l := fun p hp => ⟨Nat.le_trans (h p hp).1 hc, fun x hx => Nat.le_trans ((h p hp).2 x hx) hb⟩
theorem zip_mem (a b : List Nat) (m n : Nat) (ha : ∀ x ∈ a, x ≤ m) (hb : ∀ x ∈ b, x ≤ n) : ∀ x ∈ List.zipWith (· + ·) a b, x ≤ m + n := by
  intro x hx
  obtain ⟨i, hi, rfl⟩ := List.getElem_of_mem hx
  rw [List.getElem_zipWith]
  simp only [List.length_zipWith] at hi
  have h1 := ha a[i] (List.getElem_mem _)
  have h2 := hb b[i] (List.getElem_mem _)
  omega
theorem pairsM_bnd {c b : Nat} : ∀ l : List Pk, Bnd c b l → Bnd (2 * c) (2 * b) (pairsM l)
  | [], _ => fun p hp => by simp [pairsM] at hp
  | [_], _ => fun p hp => by simp [pairsM] at hp
  | x :: y :: r, h => by
    intro p hp
    rw [pairsM] at hp
    rcases List.mem_cons.1 hp with rfl | hp
    · have h1 := h x (by simp)
      have h2 := h y (by simp)
      refine ⟨by simp only [bothM]; omega, ?_⟩
      have := zip_mem x.2 y.2 b b h1.2 h2.2
      intro z hz
      have := this z hz
      omega
    · exact pairsM_bnd r (fun q hq => h q (by simp [hq])) p hp
theorem rowM_bnd {c b : Nat} (one : List Pk) (h : Bnd c b one) : ∀ t, Bnd (2 ^ t * c) (2 ^ t * b) (rowM one t)
  | 0 => by simpa [rowM] using h
  | t + 1 => by
    have ih := rowM_bnd one h t
    intro p hp
    rw [rowM] at hp
    have e : ∀ z : Nat, 2 ^ (t + 1) * z = 2 * (2 ^ t * z) := fun z => by rw [Nat.pow_succ, Nat.mul_comm (2 ^ t) 2, Nat.mul_assoc]
    have hl : ∀ z : Nat, z ≤ 2 ^ t * z := fun z => Nat.le_mul_of_pos_left _ (Nat.pow_pos (by decide))
    rcases List.mem_append.1 ((isort_perm _ _).mem_iff.1 hp) with hp | hp
    · have h1 := h p hp
      rw [e, e]
      refine ⟨by have := hl c; omega, fun x hx => by have := h1.2 x hx; have := hl b; omega⟩
    · have h1 := pairsM_bnd _ ih p hp
      rw [e, e]; exact h1
theorem rowM_wide {N : Nat} (one : List Pk) (h : Wide N one) : ∀ t, Wide N (rowM one t)
  | 0 => h
  | t + 1 => by
    intro p hp
    rcases List.mem_append.1 ((isort_perm _ _).mem_iff.1 hp) with hp | hp
    · exact h p hp
    · exact pairsM_wide N _ (rowM_wide one h t) p hp
theorem rowM_short (one : List Pk) : ∀ t, (rowM one t).length ≤ 2 * one.length
  | 0 => by simp only [rowM]; omega
  | t + 1 => by have := rowM_short one t; rw [rowM_length]; omega

theorem rowM_ge (one : List Pk) : ∀ t, one.length ≤ (rowM one t).length
  | 0 => Nat.le_refl _
  | t + 1 => by rw [rowM_length]; omega

/-- The wanted ones of the first i. -/
def onesTo (l : List Nat) (i : Nat) : List Pk := (List.range i).filterMap fun i => if 0 < l.getD i 0 then some (l.getD i 0, unitM l.length i) else none
theorem onesTo_all (l : List Nat) : onesTo l l.length = onesM l := rfl
theorem onesTo_zero (l : List Nat) : onesTo l 0 = [] := rfl
theorem onesTo_pos (l : List Nat) (i : Nat) (h : 0 < l.getD i 0) : onesTo l (i + 1) = onesTo l i ++ [(l.getD i 0, unitM l.length i)] := by
  unfold onesTo; rw [List.range_succ, List.filterMap_append, List.filterMap_cons, if_pos h, List.filterMap_nil]
theorem onesTo_not (l : List Nat) (i : Nat) (h : ¬ 0 < l.getD i 0) : onesTo l (i + 1) = onesTo l i := by
  unfold onesTo; rw [List.range_succ, List.filterMap_append, List.filterMap_cons, if_neg h, List.filterMap_nil, List.append_nil]
theorem onesTo_le (l : List Nat) (i : Nat) : (onesTo l i).length ≤ i := by
  unfold onesTo
  refine Nat.le_trans (List.length_filterMap_le _ _) (by simp)
theorem unitM_len (n i : Nat) : (unitM n i).length = n := by simp [unitM]
theorem unitM_le (n i : Nat) : ∀ x ∈ unitM n i, x ≤ 1 := by
  intro x hx
  unfold unitM at hx
  rcases List.mem_or_eq_of_mem_set hx with h | h
  · have := List.eq_of_mem_replicate h; omega
  · omega
theorem onesM_bnd (l : List Nat) (c : Nat) (h : ∀ x ∈ l, x ≤ c) : Bnd c 1 (onesM l) := by
  intro p hp
  unfold onesM at hp
  rw [List.mem_filterMap] at hp
  obtain ⟨i, hi, he⟩ := hp
  by_cases h0 : 0 < l.getD i 0
  · rw [if_pos h0] at he
    cases he
    refine ⟨?_, unitM_le _ _⟩
    have hi' : i < l.length := List.mem_range.1 hi
    simp only [List.getD_eq_getElem?_getD, List.getElem?_eq_getElem hi', Option.getD_some]
    exact h _ (List.getElem_mem _)
  · rw [if_neg h0] at he; cases he
theorem onesM_wide (l : List Nat) : Wide l.length (onesM l) := by
  intro p hp
  unfold onesM at hp
  rw [List.mem_filterMap] at hp
  obtain ⟨i, hi, he⟩ := hp
  by_cases h0 : 0 < l.getD i 0
  · rw [if_pos h0] at he
    cases he
    exact unitM_len _ _
  · rw [if_neg h0] at he; cases he

/-- Sums place by place. -/
def sumsM (n : Nat) (ps : List Pk) : List Nat := (List.range n).map (sumAt ps)
theorem sumsM_len (n : Nat) (ps : List Pk) : (sumsM n ps).length = n := by simp [sumsM]
theorem sumsM_nil (n : Nat) : sumsM n [] = List.replicate n 0 := by
  apply List.ext_getElem
  · simp [sumsM]
  · intro i h1 h2; simp [sumsM, sumAt]
theorem sumsM_snoc (n : Nat) (ps : List Pk) (p : Pk) (h : p.2.length = n) : List.zipWith (· + ·) (sumsM n ps) p.2 = sumsM n (ps ++ [p]) := by
  apply List.ext_getElem
  · simp [sumsM, h]
  · intro i h1 h2
    have hi : i < p.2.length := by simp [sumsM, h] at h1; omega
    simp [sumsM, sumAt, List.getD_eq_getElem?_getD, hi]
theorem sumAt_le (ps : List Pk) (b x : Nat) (h : ∀ p ∈ ps, ∀ y ∈ p.2, y ≤ b) : sumAt ps x ≤ ps.length * b := by
  induction ps with
  | nil => simp [sumAt]
  | cons p ps ih =>
    have h1 := ih (fun q hq => h q (by simp [hq]))
    have h2 : p.2.getD x 0 ≤ b := by
      rw [List.getD_eq_getElem?_getD]
      rcases Nat.lt_or_ge x p.2.length with hx | hx
      · rw [List.getElem?_eq_getElem hx]; exact h p (by simp) _ (List.getElem_mem _)
      · rw [List.getElem?_eq_none hx]; exact Nat.zero_le _
    have e : sumAt (p :: ps) x = p.2.getD x 0 + sumAt ps x := by simp [sumAt]
    rw [e, List.length_cons, Nat.add_mul]; omega
theorem sumsM_le (n : Nat) (ps : List Pk) (b : Nat) (h : ∀ p ∈ ps, ∀ y ∈ p.2, y ≤ b) : ∀ x ∈ sumsM n ps, x ≤ ps.length * b := by
  intro x hx
  unfold sumsM at hx
  obtain ⟨i, _, rfl⟩ := List.mem_map.1 hx
  exact sumAt_le ps b i h

theorem weighM_zero (l : List Nat) (most : Nat) (h : (onesM l).length = 0) : weighM l most = List.replicate l.length 0 := by simp only [weighM, h, if_true]
theorem weighM_one (l : List Nat) (most : Nat) (h : (onesM l).length = 1) : weighM l most = ((onesM l).getD 0 (0, [])).2 := by simp only [weighM, h]; rfl
theorem weighM_more (l : List Nat) (most : Nat) (h : 2 ≤ (onesM l).length) : weighM l most = sumsM l.length ((rowM (isort pkey (onesM l)) (most - 1)).take (2 * (onesM l).length - 2)) := by
  have h0 : ¬ (onesM l).length = 0 := by omega
  have h1 : ¬ (onesM l).length = 1 := by omega
  simp only [weighM, h0, h1, if_false]; rfl
theorem isort_bnd {c b : Nat} {l : List Pk} (h : Bnd c b l) : Bnd c b (isort pkey l) := fun p hp => h p ((isort_perm _ _).mem_iff.1 hp)
theorem isort_wide {N : Nat} {l : List Pk} (h : Wide N l) : Wide N (isort pkey l) := fun p hp => h p ((isort_perm _ _).mem_iff.1 hp)
theorem pairsM_step (l : List Pk) (j : Nat) (h : 2 * j + 1 < l.length) : pairsM (l.take (2 * (j + 1))) = pairsM (l.take (2 * j)) ++ [bothM l[2 * j] l[2 * j + 1]] := by
  rw [← pairsM_take, ← pairsM_take, List.take_add_one, pairsM_get l j h]; rfl
theorem pairsM_end (l : List Pk) (j : Nat) (h : ¬ 2 * j + 1 < l.length) : pairsM (l.take (2 * j)) = pairsM l := by
  rw [← pairsM_take, List.take_of_length_le (by rw [pairsM_length]; omega)]
end Rq

/- The shortest codes by packing pairs are just full, and each that is wanted has a length. -/
namespace Rq
/-- The places that are wanted. -/
def wanted (l : List Nat) : List Nat := (List.range l.length).filter fun i => decide (0 < l.getD i 0)
def unitP (l : List Nat) (i : Nat) : Pk := (l.getD i 0, unitM l.length i)
/-- .. by how often, rising. -/
def ordM (l : List Nat) : List Nat := isort (fun i => l.getD i 0) (wanted l)
theorem filterMap_if {α β : Type} (p : α → Prop) [DecidablePred p] (f : α → β) : ∀ xs : List α, (xs.filterMap fun i => if p i then some (f i) else none) = (xs.filter fun i => decide (p i)).map f
  | [] => rfl
  | x :: xs => by
    rw [List.filterMap_cons, List.filter_cons]
    by_cases h : p x
    · simp only [h, if_true, decide_true, List.map_cons, filterMap_if p f xs]
    · simp only [h, if_false, decide_false, filterMap_if p f xs]
      rfl
theorem onesM_wanted (l : List Nat) : onesM l = (wanted l).map (unitP l) := filterMap_if _ _ _
theorem ones_ord (l : List Nat) : isort pkey (onesM l) = (ordM l).map (unitP l) := by
  rw [onesM_wanted]; exact isort_map (unitP l) (fun i => l.getD i 0) pkey (fun _ => rfl) _
theorem ord_perm (l : List Nat) : (ordM l).Perm (wanted l) := isort_perm _ _
theorem wanted_nodup (l : List Nat) : (wanted l).Nodup := List.Pairwise.filter _ List.nodup_range
theorem ord_nodup (l : List Nat) : (ordM l).Nodup := (ord_perm l).nodup_iff.2 (wanted_nodup l)
theorem mem_wanted (l : List Nat) (i : Nat) : i ∈ wanted l ↔ i < l.length ∧ 0 < l.getD i 0 := by simp [wanted]
theorem ones_len (l : List Nat) : (onesM l).length = (wanted l).length := by rw [onesM_wanted, List.length_map]
theorem unitM_at (n i x : Nat) (hx : x < n) : (unitM n i).getD x 0 = if i = x then 1 else 0 := by
  rw [unitM, List.getD_eq_getElem?_getD, List.getElem?_set]
  by_cases h : i = x
  · subst h; simp [hx]
  · rw [if_neg h, if_neg h, List.getElem?_replicate]; simp [hx]
theorem sumAt_units (l : List Nat) (x : Nat) (hx : x < l.length) : ∀ is : List Nat, sumAt (is.map (unitP l)) x = is.count x
  | [] => rfl
  | i :: is => by
    have ih := sumAt_units l x hx is
    unfold sumAt at ih ⊢
    rw [List.map_cons, List.map_cons, List.sum_cons, ih, List.count_cons, unitP, unitM_at _ _ _ hx]
    by_cases h : i = x <;> simp [h, Nat.add_comm]
theorem ord_ones (l : List Nat) : Ones l.length ((ordM l).map (unitP l)) := by
  refine ⟨?_, ?_, ?_⟩
  · rw [← ones_ord]; exact isort_up _ _
  · rw [← ones_ord]; exact isort_wide (onesM_wide l)
  · intro p hp
    obtain ⟨i, hi, rfl⟩ := List.mem_map.1 hp
    exact ((mem_wanted l i).1 ((ord_perm l).mem_iff.1 hi)).2
theorem count_take {xs : List Nat} (hn : xs.Nodup) (c r : Nat) (hr : r < xs.length) : (xs.take c).count xs[r] = if r < c then 1 else 0 := by
  have hn2 : (xs.take c).Nodup := List.Nodup.sublist (List.take_sublist _ _) hn
  by_cases h : r < c
  · rw [if_pos h]
    have hm : xs[r] ∈ xs.take c := by
      rw [List.mem_iff_getElem]
      exact ⟨r, by rw [List.length_take]; omega, by rw [List.getElem_take]⟩
    have h1 := List.nodup_iff_count.1 hn2 xs[r]
    have h2 := List.count_pos_iff.2 hm
    omega
  · rw [if_neg h, List.count_eq_zero]
    intro hm
    obtain ⟨j, hj, e⟩ := List.mem_iff_getElem.1 hm
    rw [List.length_take] at hj
    rw [List.getElem_take] at e
    have h3 := List.pairwise_iff_getElem.1 hn j r (by omega) hr (by omega)
    exact h3 e
/-- The lengths by rank. -/
theorem weighM_lens (l : List Nat) (most : Nat) (h2 : 2 ≤ (wanted l).length) (hm : 1 ≤ most) (hu : (wanted l).length ≤ 2 ^ most) :
    ∃ cs, Picks ((ordM l).map (unitP l)) (most - 1) (2 * (wanted l).length - 2) cs ∧ (∀ r (hr : r < (ordM l).length), (weighM l most).getD (ordM l)[r] 0 = lenAt cs r) ∧
      ∀ x, x < l.length → x ∉ wanted l → (weighM l most).getD x 0 = 0 := by
  have hlen : ((ordM l).map (unitP l)).length = (wanted l).length := by rw [List.length_map]; exact (ord_perm l).length_eq
  have hen := rowM_enough ((ordM l).map (unitP l)) (most - 1) (by omega) (by rw [hlen, Nat.sub_add_cancel hm]; exact hu)
  rw [hlen] at hen
  obtain ⟨cs, hp, hs, _⟩ := picks_of (ord_ones l) (most - 1) (2 * (wanted l).length - 2) hen
  have hw : ∀ x, x < l.length → (weighM l most).getD x 0 = (cs.map fun c => ((ordM l).take c).count x).sum := by
    intro x hx
    have e : weighM l most = sumsM l.length ((rowM (isort pkey (onesM l)) (most - 1)).take (2 * (onesM l).length - 2)) := weighM_more l most (by rw [ones_len]; exact h2)
    rw [e, sumsM, List.getD_eq_getElem?_getD, List.getElem?_map, List.getElem?_range hx, Option.map_some, Option.getD_some, ones_ord, ones_len, hs x]
    congr 1
    apply List.map_congr_left
    intro c _
    rw [← List.map_take, sumAt_units l x hx]
  refine ⟨cs, hp, fun r hr => ?_, fun x hx hnx => ?_⟩
  · have hmem : (ordM l)[r] ∈ wanted l := (ord_perm l).mem_iff.1 (List.getElem_mem hr)
    rw [hw _ ((mem_wanted l _).1 hmem).1]
    unfold lenAt
    have : ∀ cs : List Nat, (cs.map fun c => ((ordM l).take c).count (ordM l)[r]).sum = cs.countP fun c => decide (r < c) := by
      intro cs
      induction cs with
      | nil => rfl
      | cons c cs ih =>
        rw [List.map_cons, List.sum_cons, ih, count_take (ord_nodup l) c r hr, List.countP_cons]
        by_cases h : r < c <;> simp [h, Nat.add_comm]
    exact this cs
  · rw [hw x hx]
    have : ∀ cs : List Nat, (cs.map fun c => ((ordM l).take c).count x).sum = 0 := by
      intro cs
      induction cs with
      | nil => rfl
      | cons c cs ih =>
        rw [List.map_cons, List.sum_cons, ih, List.count_eq_zero.2 (fun h => hnx ((ord_perm l).mem_iff.1 (List.mem_of_mem_take h)))]
    exact this cs

theorem sum_le_one {α : Type} (f : α → Nat) (xs : List α) (i : Nat) (hi : i < xs.length) (hpos : ∀ x ∈ xs, 0 < f x) : f xs[i] + (xs.length - 1) ≤ (xs.map f).sum := by
  induction xs generalizing i with
  | nil => simp at hi
  | cons a xs ih =>
    have hge : ∀ ys : List α, (∀ x ∈ ys, 0 < f x) → ys.length ≤ (ys.map f).sum := by
      intro ys hy
      induction ys with
      | nil => simp
      | cons b ys ih2 =>
        rw [List.map_cons, List.sum_cons, List.length_cons]
        have := ih2 (fun x hx => hy x (List.mem_cons_of_mem _ hx))
        have := hy b (by simp)
        omega
    rw [List.map_cons, List.sum_cons, List.length_cons]
    cases i with
    | zero =>
      have := hge xs (fun x hx => hpos x (List.mem_cons_of_mem _ hx))
      simp only [List.getElem_cons_zero]; omega
    | succ i =>
      simp only [List.length_cons] at hi
      have h1 := ih i (by omega) (fun x hx => hpos x (List.mem_cons_of_mem _ hx))
      have h2 := hpos a (by simp)
      simp only [List.getElem_cons_succ]; omega
/-- At least two wanted: each has a length from 1 to most; nobody else has one; they are just full. -/
theorem weighM_full (l : List Nat) (most : Nat) (h2 : 2 ≤ (wanted l).length) (hm : 1 ≤ most) (hu : (wanted l).length ≤ 2 ^ most) :
    (∀ x ∈ wanted l, 1 ≤ (weighM l most).getD x 0 ∧ (weighM l most).getD x 0 ≤ most) ∧ (∀ x, x < l.length → x ∉ wanted l → (weighM l most).getD x 0 = 0) ∧
      ((wanted l).map fun x => 2 ^ (most - (weighM l most).getD x 0)).sum = 2 ^ most := by
  obtain ⟨cs, hp, h1, h0⟩ := weighM_lens l most h2 hm hu
  have hlen : ((ordM l).map (unitP l)).length = (wanted l).length := by rw [List.length_map]; exact (ord_perm l).length_eq
  have hlo : (ordM l).length = (wanted l).length := (ord_perm l).length_eq
  have hf := picks_full (one := (ordM l).map (unitP l)) (t := most - 1) (cs := cs) (by rw [hlen]; exact hp) (by omega)
  rw [hlen, Nat.sub_add_cancel hm] at hf
  have hlt : ∀ r, lenAt cs r ≤ most := by
    intro r
    have := (falls_width cs hp.falls r).2
    have := hp.ne
    omega
  have hsum : ((wanted l).map fun x => 2 ^ (most - (weighM l most).getD x 0)).sum = 2 ^ most := by
    rw [← hf, ← ((ord_perm l).map _).sum_nat]
    congr 1
    apply List.ext_getElem
    · simp [hlo]
    · intro i hi1 hi2
      simp only [List.getElem_map, List.getElem_range]
      rw [h1 i (by simpa using hi1)]
  refine ⟨fun x hx => ?_, h0, hsum⟩
  obtain ⟨r, hr, e⟩ := List.mem_iff_getElem.1 ((ord_perm l).mem_iff.2 hx)
  subst e
  rw [h1 r hr]
  refine ⟨?_, hlt r⟩
  rcases Nat.eq_zero_or_pos (lenAt cs r) with h | h
  · exfalso
    have h3 := sum_le_one (fun r => 2 ^ (most - lenAt cs r)) (List.range (wanted l).length) r (by simp; omega) (fun _ _ => Nat.two_pow_pos _)
    simp only [List.getElem_range, List.length_range] at h3
    rw [h, hf] at h3
    simp only [Nat.sub_zero] at h3
    omega
  · exact h
theorem weighM_len (l : List Nat) (most : Nat) : (weighM l most).length = l.length := by
  unfold weighM
  simp only
  split
  · simp
  · split
    · rename_i h
      rw [onesM_wanted] at h ⊢
      rw [List.length_map] at h
      obtain ⟨i, hi⟩ := List.length_eq_one_iff.1 h
      rw [hi]
      exact unitM_len _ _
    · simp
theorem sum_range_filter (f : Nat → Nat) (p : Nat → Bool) (h : ∀ x, p x = false → f x = 0) : ∀ xs : List Nat, (xs.map f).sum = ((xs.filter p).map f).sum
  | [] => rfl
  | x :: xs => by
    rw [List.map_cons, List.sum_cons, List.filter_cons, sum_range_filter f p h xs]
    cases hp : p x
    · rw [h x hp]; simp
    · simp
theorem room_range (l : List Nat) : room l = ((List.range l.length).map fun i => if 0 < l.getD i 0 then 2 ^ (15 - l.getD i 0) else 0).sum := by
  unfold room
  congr 1
  apply List.ext_getElem
  · simp
  · intro i h1 h2
    simp only [List.length_map] at h1
    simp [List.getD_eq_getElem?_getD, List.getElem?_eq_getElem h1]
theorem pow_split (most x : Nat) (h : x ≤ most) (h15 : most ≤ 15) : 2 ^ (15 - x) = 2 ^ (most - x) * 2 ^ (15 - most) := by
  rw [← Nat.pow_add]; congr 1; omega
theorem sum_mul (f : Nat → Nat) (c : Nat) : ∀ xs : List Nat, (xs.map fun x => f x * c).sum = (xs.map f).sum * c
  | [] => by simp
  | x :: xs => by rw [List.map_cons, List.sum_cons, sum_mul f c xs, List.map_cons, List.sum_cons, Nat.add_mul]
/-- What wanted has. -/
structure Weighed (l : List Nat) (most : Nat) : Prop where
  pos : ∀ x, x < l.length → 0 < l.getD x 0 → 1 ≤ (weighM l most).getD x 0
  le : ∀ x ∈ weighM l most, x ≤ most
  zero : ∀ x, x < l.length → l.getD x 0 = 0 → (weighM l most).getD x 0 = 0
  room : room (weighM l most) ≤ 32768
theorem weighM_right (l : List Nat) (most : Nat) (hm : 1 ≤ most) (h15 : most ≤ 15) (hu : (wanted l).length ≤ 2 ^ most) : Weighed l most := by
  have hl := weighM_len l most
  have mem_at : ∀ (P : Nat → Prop), (∀ x, x < l.length → P ((weighM l most).getD x 0)) → ∀ y ∈ weighM l most, P y := by
    intro P h y hy
    obtain ⟨i, hi, rfl⟩ := List.mem_iff_getElem.1 hy
    have := h i (by omega)
    rwa [List.getD_eq_getElem?_getD, List.getElem?_eq_getElem hi] at this
  rcases Nat.lt_or_ge (wanted l).length 2 with h | h
  · rcases Nat.lt_or_ge (wanted l).length 1 with h0 | h1
    · have e : weighM l most = List.replicate l.length 0 := weighM_zero l most (by rw [ones_len]; omega)
      have hz : ∀ x, x < l.length → (weighM l most).getD x 0 = 0 := by
        intro x hx; rw [e, List.getD_eq_getElem?_getD, List.getElem?_replicate]; simp [hx]
      refine ⟨fun x hx hp => ?_, mem_at (· ≤ most) (fun x hx => by rw [hz x hx]; omega), fun x hx _ => hz x hx, ?_⟩
      · have : x ∈ wanted l := (mem_wanted l x).2 ⟨hx, hp⟩
        have := List.length_pos_of_mem this
        omega
      · rw [e]
        unfold room
        rw [List.map_replicate]
        simp
    · obtain ⟨i, hi⟩ := List.length_eq_one_iff.1 (show (wanted l).length = 1 by omega)
      have hil : i < l.length := ((mem_wanted l i).1 (by rw [hi]; simp)).1
      have e : weighM l most = unitM l.length i := by
        rw [weighM_one l most (by rw [ones_len]; omega), onesM_wanted, hi]; rfl
      have hz : ∀ x, x < l.length → (weighM l most).getD x 0 = if i = x then 1 else 0 := by
        intro x hx; rw [e]; exact unitM_at _ _ _ hx
      refine ⟨fun x hx hp => ?_, mem_at (· ≤ most) (fun x hx => by rw [hz x hx]; split <;> omega), fun x hx h0 => ?_, ?_⟩
      · have : x ∈ wanted l := (mem_wanted l x).2 ⟨hx, hp⟩
        rw [hi, List.mem_singleton] at this
        rw [hz x hx, if_pos this.symm]; exact Nat.le_refl _
      · rw [hz x hx, if_neg]
        intro e2
        have := ((mem_wanted l i).1 (by rw [hi]; simp)).2
        rw [e2] at this; omega
      · rw [room_range, hl]
        have h2 : ((List.range l.length).map fun x => if 0 < (weighM l most).getD x 0 then 2 ^ (15 - (weighM l most).getD x 0) else 0) = (List.range l.length).map fun x => if i = x then 16384 else 0 := by
          apply List.map_congr_left
          intro x hx
          rw [hz x (List.mem_range.1 hx)]
          by_cases hix : i = x
          · rw [if_pos hix, if_pos hix, if_pos (by decide)]
          · rw [if_neg hix, if_neg hix, if_neg (by decide)]
        rw [h2]
        have h3 : ∀ xs : List Nat, xs.Nodup → (xs.map fun x => if i = x then 16384 else 0).sum ≤ 16384 := by
          intro xs hn
          have : (xs.map fun x => if i = x then 16384 else 0).sum = xs.count i * 16384 := by
            clear hn
            induction xs with
            | nil => simp only [List.map_nil, List.sum_nil, List.count_nil, Nat.zero_mul]
            | cons y ys ih =>
              rw [List.map_cons, List.sum_cons, ih, List.count_cons]
              by_cases hy : i = y
              · subst hy; simp only [if_true, beq_self_eq_true]; omega
              · have hy2 : ¬ ((y == i) = true) := by simp; omega
                rw [if_neg hy, if_neg hy2]; omega
          have := List.nodup_iff_count.1 hn i
          omega
        have := h3 (List.range l.length) List.nodup_range
        omega
  · obtain ⟨h1, h0, hs⟩ := weighM_full l most h hm hu
    have hnw : ∀ x, x < l.length → l.getD x 0 = 0 → x ∉ wanted l := fun x _ h hx => by have := ((mem_wanted l x).1 hx).2; omega
    refine ⟨fun x hx hp => (h1 x ((mem_wanted l x).2 ⟨hx, hp⟩)).1, mem_at (· ≤ most) (fun x hx => ?_), fun x hx hz => h0 x hx (hnw x hx hz), ?_⟩
    · rcases Nat.eq_zero_or_pos (l.getD x 0) with hz | hp
      · rw [h0 x hx (hnw x hx hz)]; omega
      · exact (h1 x ((mem_wanted l x).2 ⟨hx, hp⟩)).2
    · rw [room_range, hl]
      have e1 : ((List.range l.length).map fun x => if 0 < (weighM l most).getD x 0 then 2 ^ (15 - (weighM l most).getD x 0) else 0).sum = ((wanted l).map fun x => if 0 < (weighM l most).getD x 0 then 2 ^ (15 - (weighM l most).getD x 0) else 0).sum := by
        have : ∀ xs : List Nat, (∀ x ∈ xs, x < l.length) → (xs.map fun x => if 0 < (weighM l most).getD x 0 then 2 ^ (15 - (weighM l most).getD x 0) else 0).sum = ((xs.filter fun i => decide (0 < l.getD i 0)).map fun x => if 0 < (weighM l most).getD x 0 then 2 ^ (15 - (weighM l most).getD x 0) else 0).sum := by
          intro xs hx
          induction xs with
          | nil => rfl
          | cons y ys ih =>
            rw [List.map_cons, List.sum_cons, List.filter_cons, ih (fun x hx' => hx x (List.mem_cons_of_mem _ hx'))]
            have hy := hx y (by simp)
            by_cases hp : 0 < l.getD y 0
            · simp only [hp, decide_true, if_true, List.map_cons, List.sum_cons]
            · rw [h0 y hy (fun hm => hp ((mem_wanted l y).1 hm).2)]
              have hd : decide (0 < l.getD y 0) = false := by simpa using hp
              rw [hd]
              simp
        exact this _ (fun x hx => List.mem_range.1 hx)
      rw [e1]
      have e2 : ((wanted l).map fun x => if 0 < (weighM l most).getD x 0 then 2 ^ (15 - (weighM l most).getD x 0) else 0) = (wanted l).map fun x => 2 ^ (most - (weighM l most).getD x 0) * 2 ^ (15 - most) := by
        apply List.map_congr_left
        intro x hx
        have := h1 x hx
        rw [if_pos (by omega), pow_split most _ this.2 h15]
      rw [e2, sum_mul (fun x => 2 ^ (most - (weighM l most).getD x 0)), hs, ← Nat.pow_add, show most + (15 - most) = 15 by omega]
      decide
theorem weighM_Right (l : List Nat) (most : Nat) (hm : 1 ≤ most) (h15 : most ≤ 15) (hu : (wanted l).length ≤ 2 ^ most) (h288 : l.length ≤ 288) : Right (weighM l most) := by
  have h := weighM_right l most hm h15 hu
  exact ⟨by rw [weighM_len]; exact h288, fun x hx => Nat.le_trans (h.le x hx) h15, h.room⟩
theorem wanted_le (l : List Nat) : (wanted l).length ≤ l.length := by
  have := List.length_filter_le (fun i => decide (0 < l.getD i 0)) (List.range l.length)
  rw [List.length_range] at this; exact this
end Rq

/- Plain tokens of bytes: what match.find and match.Tokens answer. -/
namespace Rq
/-- How many bytes from two places on are the same, so many at the most. -/
def sameF (b : List UInt8) : Nat → Nat → Nat → Nat
  | 0, _, _ => 0
  | f + 1, i, k => if k < b.length ∧ b.getD i 0 = b.getD k 0 then sameF b f (i + 1) (k + 1) + 1 else 0
def sameM (b : List UInt8) (i k : Nat) : Nat := sameF b 258 i k
theorem sameF_le (b : List UInt8) : ∀ f i k, sameF b f i k ≤ f
  | 0, _, _ => Nat.le_refl _
  | f + 1, i, k => by
    rw [sameF]
    split
    · have := sameF_le b f (i + 1) (k + 1); omega
    · omega
theorem sameM_le (b : List UInt8) (i k : Nat) : sameM b i k ≤ 258 := sameF_le _ _ _ _
theorem sameF_in (b : List UInt8) : ∀ f i k, k ≤ b.length → k + sameF b f i k ≤ b.length
  | 0, _, _, h => h
  | f + 1, i, k, h => by
    rw [sameF]
    split
    · rename_i h1
      have := sameF_in b f (i + 1) (k + 1) h1.1; omega
    · exact h
/-- The three bytes at a place. -/
def key3 (b : List UInt8) (i : Nat) : List UInt8 := (b.drop i).take 3
/-- The places ahead of m with three bytes. -/
def at3 (b : List UInt8) (m : Nat) (t : List UInt8) : List Nat := (List.range m).filter fun i => decide (i + 3 ≤ b.length) && key3 b i == t
/-- The longest of these places, the last one of as long ones. -/
def bestOf (b : List UInt8) (k : Nat) : List Nat → Nat × Nat
  | [] => (0, 0)
  | i :: l => if (bestOf b k l).1 < sameM b i k then (sameM b i k, k - i) else bestOf b k l
def findM (b : List UInt8) (m k : Nat) : Nat × Nat := if k + 3 ≤ b.length then bestOf b k (at3 b m (key3 b k)) else (0, 0)
/-- What the token at a place is: how many bytes (0: a byte alone), how far. -/
def pickM (b : List UInt8) (k : Nat) : Nat × Nat :=
  if k + 1 < b.length ∧ (findM b k k).1 < (findM b (k + 1) (k + 1)).1 then (0, 0) else findM b k k
def tokensF (b : List UInt8) : Nat → Nat → List Tok
  | 0, _ => []
  | f + 1, k =>
    if k < b.length then
      if (pickM b k).1 = 0 then ⟨(b.getD k 0).toNat, 0, 0⟩ :: tokensF b f (k + 1)
      else ⟨0, (pickM b k).1, (pickM b k).2⟩ :: tokensF b f (k + (pickM b k).1)
    else []
def tokensM (b : List UInt8) : List Tok := tokensF b b.length 0

theorem at3_zero (b : List UInt8) (t : List UInt8) : at3 b 0 t = [] := rfl
theorem at3_put (b : List UInt8) (m : Nat) (t : List UInt8) (h : m + 3 ≤ b.length) : at3 b (m + 1) t = if key3 b m = t then at3 b m t ++ [m] else at3 b m t := by
  unfold at3
  rw [List.range_succ, List.filter_append, List.filter_cons, List.filter_nil]
  by_cases hk : key3 b m = t
  · simp [hk, h]
  · simp [hk]
theorem at3_not (b : List UInt8) (m : Nat) (t : List UInt8) (h : ¬ m + 3 ≤ b.length) : at3 b (m + 1) t = at3 b m t := by
  unfold at3
  rw [List.range_succ, List.filter_append, List.filter_cons, List.filter_nil]
  simp [h]
theorem at3_lt (b : List UInt8) (m : Nat) (t : List UInt8) : ∀ i ∈ at3 b m t, i < m ∧ i + 3 ≤ b.length ∧ key3 b i = t := by
  intro i hi
  simp only [at3, List.mem_filter, List.mem_range, Bool.and_eq_true, decide_eq_true_eq, beq_iff_eq] at hi
  exact ⟨hi.1, hi.2.1, hi.2.2⟩
theorem at3_len (b : List UInt8) (m : Nat) (t : List UInt8) : (at3 b m t).length ≤ m := by
  have := List.length_filter_le (fun i => decide (i + 3 ≤ b.length) && key3 b i == t) (List.range m)
  rw [List.length_range] at this; exact this
theorem bestOf_le (b : List UInt8) (k : Nat) : ∀ l, (bestOf b k l).1 ≤ 258
  | [] => by simp [bestOf]
  | i :: l => by
    rw [bestOf]
    split
    · exact sameM_le _ _ _
    · exact bestOf_le b k l
theorem bestOf_far (b : List UInt8) (k : Nat) : ∀ l, (bestOf b k l).2 ≤ k
  | [] => by simp [bestOf]
  | i :: l => by
    rw [bestOf]
    split
    · simp
    · exact bestOf_far b k l
theorem bestOf_in (b : List UInt8) (k : Nat) (hk : k ≤ b.length) : ∀ l, k + (bestOf b k l).1 ≤ b.length
  | [] => by simpa [bestOf] using hk
  | i :: l => by
    rw [bestOf]
    split
    · exact sameF_in b 258 i k hk
    · exact bestOf_in b k hk l
theorem findM_le (b : List UInt8) (m k : Nat) : (findM b m k).1 ≤ 258 := by unfold findM; split; exact bestOf_le _ _ _; simp
theorem findM_far (b : List UInt8) (m k : Nat) : (findM b m k).2 ≤ k := by unfold findM; split; exact bestOf_far _ _ _; simp
theorem findM_in (b : List UInt8) (m k : Nat) (hk : k ≤ b.length) : k + (findM b m k).1 ≤ b.length := by unfold findM; split; exact bestOf_in _ _ hk _; simpa using hk
theorem pickM_le (b : List UInt8) (k : Nat) : (pickM b k).1 ≤ 258 := by unfold pickM; split; simp; exact findM_le _ _ _
theorem pickM_far (b : List UInt8) (k : Nat) : (pickM b k).2 ≤ k := by unfold pickM; split; simp; exact findM_far _ _ _
theorem pickM_in (b : List UInt8) (k : Nat) (hk : k ≤ b.length) : k + (pickM b k).1 ≤ b.length := by unfold pickM; split; simpa using hk; exact findM_in _ _ _ hk
theorem tokensF_ok (b : List UInt8) (hb : b.length ≤ 3000) : ∀ f k, ∀ t ∈ tokensF b f k, TokOk t
  | 0, _, t, h => by simp [tokensF] at h
  | f + 1, k, t, h => by
    rw [tokensF] at h
    split at h
    · split at h
      · rcases List.mem_cons.1 h with rfl | h
        · exact ⟨by have := (b.getD k 0).toNat_lt; simp only; omega, Nat.zero_le _, Nat.zero_le _⟩
        · exact tokensF_ok b hb f _ t h
      · rcases List.mem_cons.1 h with rfl | h
        · exact ⟨Nat.zero_le _, pickM_le b k, by have := pickM_far b k; simp only; omega⟩
        · exact tokensF_ok b hb f _ t h
    · simp at h
theorem tokensF_len (b : List UInt8) : ∀ f k, (tokensF b f k).length ≤ f
  | 0, _ => by simp [tokensF]
  | f + 1, k => by
    rw [tokensF]
    split
    · split
      · have := tokensF_len b f (k + 1); simp only [List.length_cons]; omega
      · have := tokensF_len b f (k + (pickM b k).1); simp only [List.length_cons]; omega
    · simp
theorem tokensM_len (b : List UInt8) : (tokensM b).length ≤ b.length := tokensF_len _ _ _
theorem tokensM_ok (b : List UInt8) (hb : b.length ≤ 3000) : ∀ t ∈ tokensM b, TokOk t := tokensF_ok b hb _ _
/-- The fuel does not matter. -/
theorem tokensF_more (b : List UInt8) : ∀ f g k, b.length ≤ k + f → b.length ≤ k + g → tokensF b f k = tokensF b g k
  | 0, 0, _, _, _ => rfl
  | 0, g + 1, k, h, _ => by rw [tokensF, tokensF, if_neg (by omega)]
  | f + 1, 0, k, _, h => by rw [tokensF, tokensF, if_neg (by omega)]
  | f + 1, g + 1, k, hf, hg => by
    rw [tokensF, tokensF]
    split
    · split
      · rw [tokensF_more b f g (k + 1) (by omega) (by omega)]
      · rename_i h1 h2
        rw [tokensF_more b f g (k + (pickM b k).1) (by omega) (by omega)]
    · rfl
/-- From a place on. -/
def tokensAt (b : List UInt8) (k : Nat) : List Tok := tokensF b (b.length - k) k
theorem tokensAt_zero (b : List UInt8) : tokensAt b 0 = tokensM b := rfl
theorem tokensAt_end (b : List UInt8) (k : Nat) (h : ¬ k < b.length) : tokensAt b k = [] := by
  unfold tokensAt
  rw [show b.length - k = 0 by omega]; rfl
theorem tokensAt_byte (b : List UInt8) (k : Nat) (h : k < b.length) (h0 : (pickM b k).1 = 0) : tokensAt b k = ⟨(b.getD k 0).toNat, 0, 0⟩ :: tokensAt b (k + 1) := by
  unfold tokensAt
  rw [show b.length - k = (b.length - (k + 1)) + 1 by omega, tokensF, if_pos h, if_pos h0]
theorem tokensAt_same (b : List UInt8) (k : Nat) (h : k < b.length) (h0 : (pickM b k).1 ≠ 0) : tokensAt b k = ⟨0, (pickM b k).1, (pickM b k).2⟩ :: tokensAt b (k + (pickM b k).1) := by
  unfold tokensAt
  rw [show b.length - k = (b.length - (k + 1)) + 1 by omega, tokensF, if_pos h, if_neg h0]
  congr 1
  exact tokensF_more b _ _ _ (by omega) (by omega)
end Rq

/- Plain rows without the last ones that are 0 (block.trimmed). -/
namespace Rq
def trimLen (l : List Nat) (least : Nat) : Nat → Nat
  | 0 => 0
  | n + 1 => if least < n + 1 ∧ l.getD n 0 = 0 then trimLen l least n else n + 1
def trimM (l : List Nat) (least : Nat) : List Nat := l.take (trimLen l least l.length)
theorem trimLen_le (l : List Nat) (least n : Nat) : trimLen l least n ≤ n := by
  induction n with
  | zero => simp [trimLen]
  | succ n ih => rw [trimLen]; split <;> omega
theorem trimLen_ge (l : List Nat) (least n : Nat) (h : least ≤ n) : least ≤ trimLen l least n := by
  induction n with
  | zero => simp [trimLen]; omega
  | succ n ih =>
    rw [trimLen]
    split
    · exact ih (by omega)
    · omega
theorem trimLen_zero (l : List Nat) (least n i : Nat) (h : trimLen l least n ≤ i) (hi : i < n) : l.getD i 0 = 0 := by
  induction n with
  | zero => omega
  | succ n ih =>
    rw [trimLen] at h
    split at h
    · rename_i h1
      rcases Nat.lt_or_ge i n with h2 | h2
      · exact ih h h2
      · obtain rfl : i = n := by omega
        exact h1.2
    · omega
theorem trimM_len (l : List Nat) (least : Nat) : (trimM l least).length = trimLen l least l.length := by
  rw [trimM, List.length_take]; have := trimLen_le l least l.length; omega
theorem trimM_le (l : List Nat) (least : Nat) : (trimM l least).length ≤ l.length := by rw [trimM_len]; exact trimLen_le _ _ _
theorem trimM_ge (l : List Nat) (least : Nat) (h : least ≤ l.length) : least ≤ (trimM l least).length := by rw [trimM_len]; exact trimLen_ge _ _ _ h
/-- What is cut off is 0. -/
theorem trimM_fill (l : List Nat) (least : Nat) : l = trimM l least ++ List.replicate (l.length - (trimM l least).length) 0 := by
  apply List.ext_getElem?
  intro i
  have hle := trimM_le l least
  rcases Nat.lt_or_ge i (trimM l least).length with h | h
  · rw [List.getElem?_append_left h, trimM, List.getElem?_take, if_pos (by rw [trimM_len] at h; exact h)]
  · rw [List.getElem?_append_right h, List.getElem?_replicate]
    rcases Nat.lt_or_ge i l.length with h2 | h2
    · rw [if_pos (by omega), List.getElem?_eq_getElem h2]
      have := trimLen_zero l least l.length i (by rw [trimM_len] at h; exact h) h2
      rw [List.getD_eq_getElem?_getD, List.getElem?_eq_getElem h2] at this
      simpa using this
    · rw [if_neg (by omega), List.getElem?_eq_none h2]
theorem trimM_mem (l : List Nat) (least : Nat) : ∀ x ∈ trimM l least, x ∈ l := fun _ h => List.mem_of_mem_take h
end Rq

/- Plain blocks: the bits that packing writes. -/
namespace Rq
def orderM : List Nat := [16, 17, 18, 0, 8, 7, 9, 6, 10, 5, 11, 4, 12, 3, 13, 2, 14, 1, 15]
def runCounts (rs : List Run) : List Nat := rs.foldl (fun m x => bump m x.sym) (List.replicate 19 0)
def fixedLit : List Nat := (List.range 288).map fun k => if 144 ≤ k ∧ k < 256 then 9 else if 256 ≤ k ∧ k < 280 then 7 else 8
def fixedFar : List Nat := List.replicate 32 5
def bitsS' (k : Nat) : Nat := if k = 28 then 0 else bitsS k
/-- What is told ahead of a Dynamic block's tokens. -/
def headL (lit : List Nat) : List Nat := trimM lit 257
def headF (far : List Nat) : List Nat := trimM far 1
def headR (lit far : List Nat) : List Run := runsM (headL lit ++ headF far)
def headS (lit far : List Nat) : List Nat := weighM (runCounts (headR lit far)) 7
def headT (lit far : List Nat) : List Nat := trimM (orderM.map fun k => (headS lit far).getD k 0) 4
def runBits (sizes : List Nat) (x : Run) : List Bool := codeBits (codeOf sizes x.sym) (sizes.getD x.sym 0) ++ bitsOf x.add x.bits
def headBits (lit far : List Nat) : List Bool :=
  bitsOf ((headL lit).length - 257) 5 ++ (bitsOf ((headF far).length - 1) 5 ++ (bitsOf ((headT lit far).length - 4) 4 ++ ((headT lit far).flatMap (fun n => bitsOf n 3) ++
    (headR lit far).flatMap (runBits (headS lit far)))))
def symBits (l : List Nat) (k : Nat) : List Bool := codeBits (codeOf l k) (l.getD k 0)
def tokBits (lit far : List Nat) (t : Tok) : List Bool :=
  if t.same = 0 then symBits lit t.b
  else symBits lit (257 + symS t.same) ++ (bitsOf (t.same - fromS' (symS t.same)) (bitsS' (symS t.same)) ++ (symBits far (symF t.far) ++ bitsOf (t.far - fromF (symF t.far)) (bitsF (symF t.far))))
def bodyBits (lit far : List Nat) (ts : List Tok) : List Bool := ts.flatMap (tokBits lit far) ++ symBits lit 256
def litLens (ts : List Tok) : List Nat := weighM (litCounts ts) 15
def farLens (ts : List Tok) : List Nat := weighM (farCounts ts) 15
/-- Behind the three bits of a block. -/
def restBits (bs : List Bool) (b : List UInt8) (kind : Nat) : List Bool :=
  if kind = 0 then fill bs ++ (bitsOf b.length 16 ++ (bitsOf (65535 - b.length) 16 ++ b.flatMap fun x => bitsOf x.toNat 8))
  else if kind = 2 then bs ++ (headBits (litLens (tokensM b)) (farLens (tokensM b)) ++ bodyBits (litLens (tokensM b)) (farLens (tokensM b)) (tokensM b))
  else bs ++ bodyBits fixedLit fixedFar (tokensM b)
def oneM (bs : List Bool) (b : List UInt8) (kind : Nat) (last : Bool) : List Bool := restBits (bs ++ bitsOf last.toNat 1 ++ bitsOf kind 2) b kind
def packF (bs : List Bool) : List (List UInt8 × Nat) → List Bool
  | [] => bs
  | (b, k) :: r => packF (oneM bs b k r.isEmpty) r
/-- The first so many of n parts, from the empty row on. -/
def packM (parts : List (List UInt8)) (kinds : List Nat) : List UInt8 := bytesOf (packF [] (parts.zip kinds))

theorem orderM_lt : ∀ k ∈ orderM, k < 19 := by decide
theorem headF_le (far : List Nat) : (headF far).length ≤ far.length := trimM_le _ _
theorem headL_le (lit : List Nat) : (headL lit).length ≤ lit.length := trimM_le _ _
theorem runCounts_len (rs : List Run) : (runCounts rs).length = 19 := fold_keep (fun l : List Nat => l.length = 19) _ (fun l t h => by rw [bump_len]; exact h) _ _ List.length_replicate
theorem runCounts_le (rs : List Run) : ∀ x ∈ runCounts rs, x ≤ rs.length := by
  have h : ∀ (rs : List Run) (l : List Nat) (c : Nat), (∀ x ∈ l, x ≤ c) → ∀ x ∈ rs.foldl (fun m x => bump m x.sym) l, x ≤ c + rs.length := by
    intro rs
    induction rs with
    | nil => intro l c hl; exact hl
    | cons r rs ih =>
      intro l c hl x hx
      have := ih (bump l r.sym) (c + 1) (bump_le _ _ _ hl) x hx
      rw [List.length_cons]; omega
  intro x hx
  have := h rs (List.replicate 19 0) 0 (fun x hx => Nat.le_of_eq (List.eq_of_mem_replicate hx)) x hx
  omega
/-- The runs are right. -/
structure RunOk (x : Run) : Prop where
  sym : x.sym ≤ 18
  add : x.add ≤ 127
  bits : x.bits ≤ 7
theorem restR_ok (v : Nat) (hv : v ≤ 15) : ∀ m n, ∀ x ∈ restR m v n, RunOk x
  | 0, _, x, h => by simp [restR] at h
  | m + 1, n, x, h => by
    rw [restR] at h
    have ih := fun n => restR_ok v hv m n
    split at h
    · simp at h
    · split at h
      · rcases List.mem_cons.1 h with rfl | h
        · exact ⟨by simp, by simp only; omega, by simp⟩
        · exact ih _ x h
      · split at h
        · rcases List.mem_cons.1 h with rfl | h
          · exact ⟨by simp, by simp only; omega, by simp⟩
          · exact ih _ x h
        · split at h
          · rcases List.mem_cons.1 h with rfl | h
            · exact ⟨by simp, by simp only; omega, by simp⟩
            · exact ih _ x h
          · rcases List.mem_cons.1 h with rfl | h
            · exact ⟨by simp only; omega, by simp, by simp⟩
            · exact ih _ x h
theorem restR_len (v : Nat) : ∀ m n, (restR m v n).length ≤ n
  | 0, _ => by simp [restR]
  | m + 1, n => by
    have ih := fun n => restR_len v m n
    rw [restR]
    split
    · simp
    · split
      · have := ih (n - min n 138); simp only [List.length_cons]; omega
      · split
        · have := ih (n - min n 10); simp only [List.length_cons]; omega
        · split
          · have := ih (n - min n 6); simp only [List.length_cons]; omega
          · have := ih (n - 1); simp only [List.length_cons]; omega
theorem groupR_ok (v n : Nat) (hv : v ≤ 15) : ∀ x ∈ groupR v n, RunOk x := by
  intro x hx
  unfold groupR at hx
  split at hx
  · exact restR_ok v hv _ _ x hx
  · rcases List.mem_cons.1 hx with rfl | hx
    · exact ⟨by simp only; omega, by simp, by simp⟩
    · exact restR_ok v hv _ _ x hx
theorem groupR_len (v n : Nat) (hn : 0 < n) : (groupR v n).length ≤ n := by
  unfold groupR
  split
  · exact restR_len _ _ _
  · have := restR_len v (n - 1) (n - 1); simp only [List.length_cons]; omega
theorem headN_pos (v : Nat) (t : List Nat) : 0 < headN (v :: t) := by simp only [headN]; omega
theorem runsT_ok : ∀ k (l : List Nat), (∀ x ∈ l, x ≤ 15) → ∀ x ∈ runsT k l, RunOk x
  | 0, _, _, x, h => by simp [runsT] at h
  | k + 1, [], _, x, h => by simp [runsT] at h
  | k + 1, v :: t, hl, x, h => by
    rw [runsT] at h
    rcases List.mem_append.1 h with h | h
    · exact groupR_ok v _ (hl v (by simp)) x h
    · exact runsT_ok k _ (fun y hy => hl y (List.mem_of_mem_drop hy)) x h
theorem runsT_len : ∀ k (l : List Nat), (runsT k l).length ≤ l.length
  | 0, _ => by simp [runsT]
  | k + 1, [] => by simp [runsT]
  | k + 1, v :: t => by
    rw [runsT, List.length_append]
    have h1 := groupR_len v _ (headN_pos v t)
    have h2 := runsT_len k ((v :: t).drop (headN (v :: t)))
    have h3 := headN_le (v :: t)
    rw [List.length_drop] at h2
    omega
theorem runsM_ok (l : List Nat) (h : ∀ x ∈ l, x ≤ 15) : ∀ x ∈ runsM l, RunOk x := runsT_ok _ _ h
theorem runsM_len (l : List Nat) : (runsM l).length ≤ l.length := runsT_len _ _

theorem flat_len {α : Type} (f : α → List Bool) (c : Nat) : ∀ xs : List α, (∀ x ∈ xs, (f x).length ≤ c) → (xs.flatMap f).length ≤ xs.length * c
  | [], _ => by simp
  | x :: xs, h => by
    rw [List.flatMap_cons, List.length_append, List.length_cons, Nat.add_mul]
    have := flat_len f c xs (fun y hy => h y (List.mem_cons_of_mem _ hy))
    have := h x (by simp)
    omega
theorem getD_le15 (l : List Nat) (h : ∀ x ∈ l, x ≤ 15) (i : Nat) : l.getD i 0 ≤ 15 := getD_le l 15 i h
theorem bitsS'_le (k : Nat) (h : k < 29) : bitsS' k ≤ 13 := by unfold bitsS' bitsS; split <;> omega
theorem symBits_len (l : List Nat) (h : ∀ x ∈ l, x ≤ 15) (k : Nat) : (symBits l k).length ≤ 15 := by rw [symBits, codeBits_length]; exact getD_le15 l h k
theorem tokBits_len (lit far : List Nat) (hl : ∀ x ∈ lit, x ≤ 15) (hf : ∀ x ∈ far, x ≤ 15) (t : Tok) : (tokBits lit far t).length ≤ 60 := by
  unfold tokBits
  split
  · have := symBits_len lit hl t.b; omega
  · simp only [List.length_append, bitsOf_length]
    have h1 := symBits_len lit hl (257 + symS t.same)
    have h2 := symBits_len far hf (symF t.far)
    have h3 := bitsS'_le _ (symS_lt t.same)
    have h4 := bitsF_le _ (symF_lt t.far)
    omega
theorem bodyBits_len (lit far : List Nat) (hl : ∀ x ∈ lit, x ≤ 15) (hf : ∀ x ∈ far, x ≤ 15) (ts : List Tok) : (bodyBits lit far ts).length ≤ ts.length * 60 + 15 := by
  unfold bodyBits
  rw [List.length_append]
  have := flat_len (tokBits lit far) 60 ts (fun t _ => tokBits_len lit far hl hf t)
  have := symBits_len lit hl 256
  omega
theorem headS_ok (lit far : List Nat) : Weighed (runCounts (headR lit far)) 7 := weighM_right _ 7 (by decide) (by decide) (by have := wanted_le (runCounts (headR lit far)); rw [runCounts_len] at this; omega)
theorem headS_len (lit far : List Nat) : (headS lit far).length = 19 := by rw [headS, weighM_len, runCounts_len]
theorem headS_le (lit far : List Nat) : ∀ x ∈ headS lit far, x ≤ 7 := (headS_ok lit far).le
theorem headS_Right (lit far : List Nat) : Right (headS lit far) := ⟨by rw [headS_len]; decide, fun x hx => by have := headS_le lit far x hx; omega, (headS_ok lit far).room⟩
theorem headR_len (lit far : List Nat) : (headR lit far).length ≤ lit.length + far.length := by
  have h1 := runsM_len (headL lit ++ headF far)
  rw [List.length_append] at h1
  have := headL_le lit
  have := headF_le far
  rw [headR]; omega
theorem headR_ok (lit far : List Nat) (hl : ∀ x ∈ lit, x ≤ 15) (hf : ∀ x ∈ far, x ≤ 15) : ∀ x ∈ headR lit far, RunOk x := runsM_ok _ (fun x hx => by
  rcases List.mem_append.1 hx with h | h
  · exact hl x (trimM_mem _ _ x h)
  · exact hf x (trimM_mem _ _ x h))
theorem headT_le (lit far : List Nat) : (headT lit far).length ≤ 19 := by
  have := trimM_le (orderM.map fun k => (headS lit far).getD k 0) 4
  rw [List.length_map] at this; exact this
theorem headT_ge (lit far : List Nat) : 4 ≤ (headT lit far).length := trimM_ge _ 4 (by rw [List.length_map]; decide)
theorem runBits_len (sizes : List Nat) (hs : ∀ x ∈ sizes, x ≤ 15) (x : Run) (hx : RunOk x) : (runBits sizes x).length ≤ 22 := by
  rw [runBits, List.length_append, codeBits_length, bitsOf_length]
  have := getD_le15 sizes hs x.sym
  have := hx.bits
  omega
theorem headBits_len (lit far : List Nat) (h1 : lit.length ≤ 286) (h2 : far.length ≤ 30) (hl : ∀ x ∈ lit, x ≤ 15) (hf : ∀ x ∈ far, x ≤ 15) : (headBits lit far).length ≤ 7200 := by
  unfold headBits
  simp only [List.length_append, bitsOf_length]
  have a1 := flat_len (fun n => bitsOf n 3) 3 (headT lit far) (fun x _ => by rw [bitsOf_length]; exact Nat.le_refl _)
  have a2 := flat_len (runBits (headS lit far)) 22 (headR lit far) (fun x hx => runBits_len _ (headS_Right lit far).le x (headR_ok lit far hl hf x hx))
  have a3 := headT_le lit far
  have a4 := headR_len lit far
  omega
theorem litLens_len (ts : List Tok) : (litLens ts).length = 286 := by rw [litLens, weighM_len, litCounts, bump_len, litTo_len]
theorem farLens_len (ts : List Tok) : (farLens ts).length = 30 := by rw [farLens, weighM_len]; exact farTo_len _ _
theorem litLens_ok (ts : List Tok) : Weighed (litCounts ts) 15 := weighM_right _ 15 (by decide) (by decide) (by
  have h1 := wanted_le (litCounts ts)
  have h2 : (litCounts ts).length = 286 := by rw [litCounts, bump_len, litTo_len]
  have : (2 : Nat) ^ 15 = 32768 := by decide
  omega)
theorem farLens_ok (ts : List Tok) : Weighed (farCounts ts) 15 := weighM_right _ 15 (by decide) (by decide) (by
  have h1 := wanted_le (farCounts ts)
  have h2 : (farCounts ts).length = 30 := farTo_len _ _
  have : (2 : Nat) ^ 15 = 32768 := by decide
  omega)
theorem litLens_Right (ts : List Tok) : Right (litLens ts) := ⟨by rw [litLens_len]; decide, (litLens_ok ts).le, (litLens_ok ts).room⟩
theorem farLens_Right (ts : List Tok) : Right (farLens ts) := ⟨by rw [farLens_len]; decide, (farLens_ok ts).le, (farLens_ok ts).room⟩
theorem fixedLit_le : ∀ x ∈ fixedLit, x ≤ 15 := by
  intro x hx
  obtain ⟨k, _, rfl⟩ := List.mem_map.1 hx
  split
  · omega
  · split <;> omega
theorem fixedFar_le : ∀ x ∈ fixedFar, x ≤ 15 := fun x hx => by rw [List.eq_of_mem_replicate hx]; decide
theorem fixedLit_len : fixedLit.length = 288 := by simp [fixedLit]
theorem fixedFar_len : fixedFar.length = 32 := by simp [fixedFar]
theorem fixedLit_Right : Right fixedLit := ⟨by rw [fixedLit_len]; decide, fixedLit_le, by decide +kernel⟩
theorem fixedFar_Right : Right fixedFar := ⟨by rw [fixedFar_len]; decide, fixedFar_le, by decide +kernel⟩
theorem oneM_len (bs : List Bool) (b : List UInt8) (kind : Nat) (last : Bool) : (oneM bs b kind last).length ≤ bs.length + b.length * 60 + 7300 := by
  have ht := tokensM_len b
  have hm : (tokensM b).length * 60 ≤ b.length * 60 := Nat.mul_le_mul_right _ ht
  unfold oneM restBits
  split
  · simp only [List.length_append, fill_length, bitsOf_length]
    have := flat_len (fun x : UInt8 => bitsOf x.toNat 8) 8 b (fun x _ => by rw [bitsOf_length]; exact Nat.le_refl _)
    omega
  · split
    · simp only [List.length_append, bitsOf_length]
      have h1 := headBits_len (litLens (tokensM b)) (farLens (tokensM b)) (by rw [litLens_len]; exact Nat.le_refl _) (by rw [farLens_len]; exact Nat.le_refl _) (litLens_Right _).le (farLens_Right _).le
      have h2 := bodyBits_len (litLens (tokensM b)) (farLens (tokensM b)) (litLens_Right _).le (farLens_Right _).le (tokensM b)
      omega
    · simp only [List.length_append, bitsOf_length]
      have h2 := bodyBits_len fixedLit fixedFar fixedLit_le fixedFar_le (tokensM b)
      omega
end Rq

/- Plain: what tokens say. -/
namespace Rq
theorem symTo_le (f : Nat → Nat) (n : Nat) : ∀ m, 0 < m → f 0 ≤ n → f (symTo f n m) ≤ n
  | m + 1, _, h0 => by
    rw [symTo]
    split
    · assumption
    · rcases Nat.eq_zero_or_pos m with h | h
      · subst h; simpa [symTo] using h0
      · exact symTo_le f n m h h0
theorem symTo_next (f : Nat → Nat) (n : Nat) : ∀ m, symTo f n m + 1 < m → n < f (symTo f n m + 1)
  | m + 1, h => by
    rw [symTo] at h ⊢
    split at h
    · omega
    · rename_i hf
      rw [if_neg hf]
      rcases Nat.lt_or_ge (symTo f n m + 1) m with h2 | h2
      · exact symTo_next f n m h2
      · have : symTo f n m + 1 = m := by omega
        rw [this]; omega
theorem far_fits (n : Nat) (h1 : 1 ≤ n) (h2 : n ≤ 3000) : fromF (symF n) ≤ n ∧ n - fromF (symF n) < 2 ^ bitsF (symF n) := by
  have ha : fromF (symF n) ≤ n := symTo_le fromF n 30 (by decide) (by simpa [fromF] using h1)
  refine ⟨ha, ?_⟩
  rcases Nat.lt_or_ge (symF n + 1) 30 with h | h
  · have hb : n < fromF (symF n + 1) := symTo_next fromF n 30 h
    rw [fromF] at hb; omega
  · have := symF_lt n
    have e : symF n = 29 := by omega
    rw [e] at ha
    have : fromF 29 = 24577 := by decide
    omega
theorem same_fits : ∀ n, n < 259 → 3 ≤ n → fromS' (symS n) ≤ n ∧ n - fromS' (symS n) < 2 ^ bitsS' (symS n) := by decide +kernel

/-- What a token says behind what has been said. -/
def saysF (d : Nat) : Nat → List UInt8 → List UInt8
  | 0, out => out
  | n + 1, out => saysF d n (out ++ [out.getD (out.length - d) 0])
def saysT (out : List UInt8) (t : Tok) : List UInt8 := if t.same = 0 then out ++ [UInt8.ofNat t.b] else saysF t.far t.same out
theorem saysF_len (d : Nat) : ∀ n out, (saysF d n out).length = out.length + n
  | 0, _ => rfl
  | n + 1, out => by rw [saysF, saysF_len d n, List.length_append, List.length_singleton]; omega
theorem saysT_len (out : List UInt8) (t : Tok) : out.length < (saysT out t).length := by
  unfold saysT
  split
  · simp
  · rw [saysF_len]; omega
/-- A token is right behind so many bytes. -/
structure TokFit (t : Tok) (n : Nat) : Prop where
  b : t.b ≤ 255
  same : t.same = 0 ∨ 3 ≤ t.same ∧ t.same ≤ 258 ∧ 1 ≤ t.far ∧ t.far ≤ n
def Fits : List Tok → List UInt8 → Prop
  | [], _ => True
  | t :: ts, out => TokFit t out.length ∧ Fits ts (saysT out t)
def saysAll (ts : List Tok) (out : List UInt8) : List UInt8 := ts.foldl saysT out
theorem saysAll_len (ts : List Tok) : ∀ out, out.length ≤ (saysAll ts out).length := by
  induction ts with
  | nil => intro out; exact Nat.le_refl _
  | cons t ts ih => intro out; have := ih (saysT out t); have := saysT_len out t; exact Nat.le_trans (by omega) (ih (saysT out t))
/-- What stands ahead is the same. -/
theorem sameF_same (b : List UInt8) : ∀ f i k j, j < sameF b f i k → b.getD (i + j) 0 = b.getD (k + j) 0 ∧ k + j < b.length
  | 0, _, _, _, h => by simp [sameF] at h
  | f + 1, i, k, j, h => by
    rw [sameF] at h
    split at h
    · rename_i h1
      cases j with
      | zero => exact ⟨h1.2, h1.1⟩
      | succ j =>
        have := sameF_same b f (i + 1) (k + 1) j (by omega)
        rw [show i + (j + 1) = i + 1 + j by omega, show k + (j + 1) = k + 1 + j by omega]
        exact this
    · omega
theorem sameF_ge (b : List UInt8) : ∀ n f i k, n ≤ f → (∀ j, j < n → k + j < b.length ∧ b.getD (i + j) 0 = b.getD (k + j) 0) → n ≤ sameF b f i k
  | 0, _, _, _, _, _ => Nat.zero_le _
  | n + 1, 0, _, _, h, _ => by omega
  | n + 1, f + 1, i, k, h, hs => by
    have h0 := hs 0 (by omega)
    rw [sameF, if_pos (by simpa using h0)]
    have := sameF_ge b n f (i + 1) (k + 1) (by omega) (fun j hj => by
      have := hs (j + 1) (by omega)
      rw [show i + 1 + j = i + (j + 1) by omega, show k + 1 + j = k + (j + 1) by omega]; exact this)
    omega
theorem key3_same (b : List UInt8) (i k : Nat) (h : key3 b i = key3 b k) (j : Nat) (hj : j < 3) : b.getD (i + j) 0 = b.getD (k + j) 0 := by
  have h1 : (key3 b i)[j]? = (key3 b k)[j]? := by rw [h]
  unfold key3 at h1
  rw [List.getElem?_take, List.getElem?_take, if_pos hj, if_pos hj, List.getElem?_drop, List.getElem?_drop] at h1
  rw [List.getD_eq_getElem?_getD, List.getD_eq_getElem?_getD, h1]
theorem bestOf_mem (b : List UInt8) (k : Nat) : ∀ l, (bestOf b k l).1 ≠ 0 → ∃ i ∈ l, bestOf b k l = (sameM b i k, k - i)
  | [], h => by simp [bestOf] at h
  | i :: l, h => by
    rw [bestOf] at h ⊢
    split at h
    · rename_i h1
      rw [if_pos h1]
      exact ⟨i, by simp, rfl⟩
    · rename_i h1
      rw [if_neg h1]
      obtain ⟨i', hi, e⟩ := bestOf_mem b k l h
      exact ⟨i', List.mem_cons_of_mem _ hi, e⟩
theorem findM_fit (b : List UInt8) (k : Nat) (h : (findM b k k).1 ≠ 0) : ∃ i, i < k ∧ findM b k k = (sameM b i k, k - i) ∧ 3 ≤ sameM b i k := by
  unfold findM at h ⊢
  split at h
  · rename_i h3
    rw [if_pos h3]
    obtain ⟨i, hi, e⟩ := bestOf_mem b k _ h
    obtain ⟨a1, a2, a3⟩ := at3_lt b k _ i hi
    exact ⟨i, a1, e, sameF_ge b 3 258 i k (by decide) (fun j hj => ⟨by omega, key3_same b i k a3 j hj⟩)⟩
  · simp at h
theorem pickM_fit (b : List UInt8) (k : Nat) (h : (pickM b k).1 ≠ 0) : ∃ i, i < k ∧ pickM b k = (sameM b i k, k - i) ∧ 3 ≤ sameM b i k := by
  unfold pickM at h ⊢
  split at h
  · simp at h
  · rename_i h1
    rw [if_neg h1]
    exact findM_fit b k h
theorem take_snoc (b : List UInt8) (k : Nat) (h : k < b.length) : b.take (k + 1) = b.take k ++ [b.getD k 0] := by
  rw [List.take_succ_eq_append_getElem h, List.getD_eq_getElem?_getD, List.getElem?_eq_getElem h]; rfl
theorem saysF_take (b : List UInt8) (i d : Nat) (hd : 1 ≤ d) : ∀ n k, k = i + d → (∀ j, j < n → b.getD (i + j) 0 = b.getD (k + j) 0 ∧ k + j < b.length) → saysF d n (b.take k) = b.take (k + n)
  | 0, _, _, _ => rfl
  | n + 1, k, hk, h => by
    have h0 := h 0 (by omega)
    have hkl : k < b.length := by simpa using h0.2
    rw [saysF, List.length_take, Nat.min_eq_left (by omega)]
    have e : (b.take k).getD (k - d) 0 = b.getD k 0 := by
      have e1 : k - d = i := by omega
      rw [e1, List.getD_eq_getElem?_getD, List.getElem?_take, if_pos (by omega), ← List.getD_eq_getElem?_getD]
      simpa using h0.1
    rw [e, ← take_snoc b k hkl]
    have := saysF_take b (i + 1) d hd n (k + 1) (by omega) (fun j hj => by
      have := h (j + 1) (by omega)
      rw [show i + 1 + j = i + (j + 1) by omega, show k + 1 + j = k + (j + 1) by omega]; exact this)
    rw [this, show k + 1 + n = k + (n + 1) by omega]
theorem tokens_back (b : List UInt8) : ∀ f k, b.length ≤ k + f → k ≤ b.length → ∀ ts, ts = tokensF b f k → Fits ts (b.take k) ∧ saysAll ts (b.take k) = b
  | 0, k, h, h2, ts, e => by
    subst e
    refine ⟨trivial, ?_⟩
    rw [tokensF, saysAll, List.foldl_nil, List.take_of_length_le (by omega)]
  | f + 1, k, h, h2, ts, e => by
    rw [tokensF] at e
    split at e
    · rename_i hk
      split at e
      · subst e
        have e2 : saysT (b.take k) ⟨(b.getD k 0).toNat, 0, 0⟩ = b.take (k + 1) := by
          rw [saysT, if_pos rfl, take_snoc b k hk]; simp
        have ih := tokens_back b f (k + 1) (by omega) (by omega) _ rfl
        rw [Fits, saysAll, List.foldl_cons, e2]
        exact ⟨⟨⟨by have := (b.getD k 0).toNat_lt; simp only; omega, .inl rfl⟩, ih.1⟩, ih.2⟩
      · rename_i h0
        obtain ⟨i, hi, e3, h3⟩ := pickM_fit b k h0
        rw [e3] at e
        subst e
        have hin := sameF_in b 258 i k (by omega)
        have e2 : saysT (b.take k) ⟨0, sameM b i k, k - i⟩ = b.take (k + sameM b i k) := by
          rw [saysT, if_neg (by simp only; omega)]
          exact saysF_take b i (k - i) (by omega) _ k (by omega) (fun j hj => sameF_same b 258 i k j hj)
        have ih := tokens_back b f (k + sameM b i k) (by omega) hin _ rfl
        have hle := sameM_le b i k
        rw [Fits, saysAll, List.foldl_cons, e2]
        exact ⟨⟨⟨Nat.zero_le _, .inr ⟨h3, hle, by simp only; omega, by rw [List.length_take]; simp only; omega⟩⟩, ih.1⟩, ih.2⟩
    · subst e
      refine ⟨trivial, ?_⟩
      rw [saysAll, List.foldl_nil, List.take_of_length_le (by omega)]
theorem saysF_pre (pre : List UInt8) (d : Nat) (hd : 1 ≤ d) : ∀ n out, d ≤ out.length → saysF d n (pre ++ out) = pre ++ saysF d n out
  | 0, _, _ => rfl
  | n + 1, out, h => by
    have e : (pre ++ out).getD ((pre ++ out).length - d) 0 = out.getD (out.length - d) 0 := by
      rw [List.getD_eq_getElem?_getD, List.getD_eq_getElem?_getD, List.length_append, List.getElem?_append_right (by omega)]
      congr 2; omega
    rw [saysF, saysF, e, List.append_assoc, saysF_pre pre d hd n _ (by rw [List.length_append]; omega)]
theorem saysT_pre (pre out : List UInt8) (t : Tok) (h : TokFit t out.length) : saysT (pre ++ out) t = pre ++ saysT out t := by
  unfold saysT
  split
  · rw [List.append_assoc]
  · rename_i h0
    have := h.same.resolve_left h0
    exact saysF_pre pre _ this.2.2.1 _ _ this.2.2.2
theorem Fits_pre (pre : List UInt8) : ∀ ts out, Fits ts out → Fits ts (pre ++ out) ∧ saysAll ts (pre ++ out) = pre ++ saysAll ts out
  | [], _, _ => ⟨trivial, rfl⟩
  | t :: ts, out, h => by
    have ih := Fits_pre pre ts (saysT out t) h.2
    have e := saysT_pre pre out t h.1
    refine ⟨⟨⟨h.1.b, ?_⟩, by rw [e]; exact ih.1⟩, ?_⟩
    · rcases h.1.same with h1 | ⟨h1, h2, h3, h4⟩
      · exact .inl h1
      · exact .inr ⟨h1, h2, h3, by rw [List.length_append]; omega⟩
    · rw [saysAll, List.foldl_cons, e]; exact ih.2
theorem tokensM_back (b : List UInt8) : Fits (tokensM b) [] ∧ saysAll (tokensM b) [] = b := tokens_back b b.length 0 (by omega) (Nat.zero_le _) _ rfl
theorem tokensM_after (pre b : List UInt8) : Fits (tokensM b) pre ∧ saysAll (tokensM b) pre = pre ++ b := by
  have h := tokensM_back b
  have := Fits_pre pre _ [] h.1
  rw [List.append_nil, h.2] at this
  exact this
theorem fits_each : ∀ (ts : List Tok) (out : List UInt8), Fits ts out → (saysAll ts out).length ≤ 3000 → ∀ t ∈ ts, t.same = 0 ∨ 3 ≤ t.same ∧ t.same ≤ 258 ∧ 1 ≤ t.far ∧ t.far ≤ 3000
  | [], _, _, _, t, h => by simp at h
  | t :: ts, out, h, h3, x, hx => by
    have h3' : (saysAll ts (saysT out t)).length ≤ 3000 := h3
    rcases List.mem_cons.1 hx with rfl | hx
    · rcases h.1.same with h1 | ⟨h1, h2, h4, h5⟩
      · exact .inl h1
      · have a := saysAll_len ts (saysT out x)
        have b := saysT_len out x
        exact .inr ⟨h1, h2, h4, by omega⟩
    · exact fits_each ts (saysT out t) h.2 h3' x hx
end Rq

/- Plain: closed facts of packed blocks. -/
namespace Rq
theorem packed_aa : packM [[97, 97]] [0] = [1, 2, 0, 0xfd, 0xff, 97, 97] := by decide +kernel
theorem packed_s : (packM [[]] [0]).length = 5 := by decide +kernel
theorem packed_f : packM [[]] [1] = [3, 0] := by decide +kernel
theorem packed_d : ¬ (packM [[]] [2]).length < 2 := by decide +kernel
end Rq
