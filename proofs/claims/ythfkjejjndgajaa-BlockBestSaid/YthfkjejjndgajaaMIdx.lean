/- MIdx: Idx, Find, Put3. -/
import Derived.Test.YthfkjejjndgajaaMRow
import Derived.Test.YthfkjejjndgajaaMBase
import Derived.WideKeyEntry
import Derived.WideKeyArr
import Derived.MapKept
import Derived.WalkSpells
import Derived.WalkLawsBesides
import Derived.BigQuiet
import Derived.Deep.QuietTactic
/- Where three bytes stood (match.index): the map as a block. -/
namespace Go.Proofs.Ythfkjejjndgajaa
open Go.RowKit Go.Proofs.YthfkjejjndgajaaW.PrintWords
open Go.MapKept (Stamped)
open Go.ChangeMaps (setBlock)
open Go.WideElems (findIdx_born findIdx_arr modify_last set_self)

theorem info_i3 : (Try.prog.info? 3).map (fun i => (i.zero, i.size, i.bytes)) = some (some (.int .i64 0), 1, 8) := by kernel_rfl
/-- Three bytes as a key. -/
def key3V (t : List UInt8) : Value := .agg (t.map fun x => Value.int .u8 (x.toNat : Int)).toArray
theorem key3V_inj {a b : List UInt8} (h : key3V a = key3V b) : a = b := by
  unfold key3V at h
  injection h with h
  have h2 : (a.map fun x => Value.int .u8 (x.toNat : Int)) = b.map fun x => Value.int .u8 (x.toNat : Int) := by
    have := congrArg Array.toList h; simpa using this
  exact (List.map_inj_right (fun x y e => by injection e with _ e; exact UInt8.toNat_inj.1 (by omega))).1 h2
theorem keyArr : Go.WideMaps.ArrKey Try.prog 141 5 3 := ⟨Try.underlying141, by kernel_rfl, by kernel_rfl, by kernel_rfl⟩
theorem keyLaw : Go.WideMaps.KeyLaw Try.prog 141 := keyArr.law
theorem keyIs : Try.prog.keyType 141 = true := by kernel_rfl
theorem keyCells : Try.prog.cellsOf 141 = 3 := by kernel_rfl
theorem u8Cells : Try.prog.cellsOf 5 = 1 := by kernel_rfl
theorem typesMany : ∃ m, Try.prog.types.size = m + 2 := ⟨Try.prog.types.size - 2, by
  have : 2 ≤ Try.prog.types.size := of_decide_eq_true (by kernel_rfl)
  omega⟩
theorem key_of (t : List UInt8) (h : t.length = 3) : ∃ l, keyOf Try.prog 141 (key3V t) = some l := by
  match t, h with
  | [a, b, c], _ =>
    have ha := a.toNat_lt
    have hb := b.toNat_lt
    have hc := c.toNat_lt
    have w0 : ∀ n : Nat, n < 256 → (Lit.int .u8 (n : Int)).wf = true := by decide +kernel
    have w1 : ∀ x : UInt8, (Lit.int .u8 (x.toNat : Int)).wf = true := fun x => w0 _ x.toNat_lt
    obtain ⟨m, hm⟩ := typesMany
    refine ⟨.string (keyBytes [.int .u8 (a.toNat : Int), .int .u8 (b.toNat : Int), .int .u8 (c.toNat : Int)]), ?_⟩
    unfold keyOf
    rw [Try.underlying141]
    simp only [keyIs, Bool.true_and]
    rw [if_pos (by simp [Value.formed, Try.underlying141, keyCells, key3V])]
    have hk : Try.prog.keyLits (Try.prog.types.size + 1) 141 (key3V [a, b, c]).cells.toList = some [.int .u8 (a.toNat : Int), .int .u8 (b.toNat : Int), .int .u8 (c.toNat : Int)] := by
      rw [hm]
      unfold Program.keyLits
      rw [Try.underlying141]
      have one : ∀ x : UInt8, Try.prog.keyLits (m + 2) 5 [Value.int .u8 (x.toNat : Int)] = some [.int .u8 (x.toNat : Int)] := fun x => by
        unfold Program.keyLits
        rw [Try.underlying5]
        simp [w1]
      simp only [key3V, Value.cells, keyCells, u8Cells]
      simp [List.range_succ, one, List.mapM_cons]
    rw [hk]; rfl

/-- Block blk is a map that has at each three bytes these places, in rows of the call's own. -/
def IsIdx (w : World) (base blk : Nat) (M : List UInt8 → List Nat) : Prop :=
  ∃ (es : Array MapEntry) (clock : Nat), w.heap[blk]? = some (.map es clock) ∧ Stamped es clock ∧
    (∀ e ∈ es.toList, ∃ t, t.length = 3 ∧ e.key = key3V t ∧ Kd.R (Kd.int .i64) 3 w base (fun _ => True) e.val (nn (M t))) ∧
    (∀ t, t.length = 3 → M t ≠ [] → ∃ e ∈ es.toList, e.key = key3V t) ∧
    (∀ e ∈ es.toList, ∀ e' ∈ es.toList, e.key ≠ e'.key → e.val.ownBlock = none ∨ e.val.ownBlock ≠ e'.val.ownBlock)

theorem R_apart {α : Type} {d : Kd α} {e : Nat} {w : World} {base blk : Nat} {ok : Nat → Prop} {v : Value} {xs : List α} {es : Array MapEntry} {clock : Nat} (h : d.R e w base ok v xs) (hb : w.heap[blk]? = some (.map es clock)) :
    d.R e w base (fun k => ok k ∧ k ≠ blk) v xs := Kd.R_mono (Kd.R_bound h) (fun k hk => ⟨hk.1, by
      rintro rfl
      obtain ⟨_, _, _, _, _, cells, hc⟩ := hk
      rw [hb] at hc; cases hc⟩)
theorem R_setBlock {α : Type} {d : Kd α} {e : Nat} {w : World} {base blk : Nat} {ok : Nat → Prop} {v : Value} {xs : List α} {es : Array MapEntry} {clock : Nat} (h : d.R e w base ok v xs) (hb : w.heap[blk]? = some (.map es clock)) (o : Obj) :
    d.R e (setBlock w blk o) base ok v xs := Kd.R_mono (Kd.R_step (R_apart h hb) (fun k hk _ => by
      unfold setBlock
      rw [Array.getElem?_setIfInBounds, if_neg (fun e => hk.2 e.symm)])) (fun _ hk => hk.1)
theorem setBlock_same {w : World} {blk : Nat} {o : Obj} (hb : w.heap[blk]? = some o) (o' : Obj) : (setBlock w blk o').heap[blk]? = some o' := by
  have := blk_lt hb
  unfold setBlock
  rw [Array.getElem?_setIfInBounds, if_pos rfl, if_pos this]
theorem setBlock_far {w : World} {blk k : Nat} (hk : k ≠ blk) (o' : Obj) : (setBlock w blk o').heap[k]? = w.heap[k]? := by
  unfold setBlock
  rw [Array.getElem?_setIfInBounds, if_neg (fun e => hk e.symm)]
theorem setBlock_size (w : World) (blk : Nat) (o' : Obj) : (setBlock w blk o').heap.size = w.heap.size := by unfold setBlock; simp
theorem own_mem {w : World} {base : Nat} {ok : Nat → Prop} {v : Value} {xs : List Int} (h : Kd.R (Kd.int .i64) 3 w base ok v xs) : ∀ k, v.ownBlock = some k → k < w.heap.size := fun k hk => Kd.R_lt h k hk
theorem zeroInts : ∀ w : World, (zeroValue 30).run Try.prog w = .ok (.slice none 0 0) w := fun w => by kernel_rfl

theorem IsIdx.made (w : World) (base : Nat) : IsIdx (w.alloc (.map #[] 0)) base w.heap.size (fun _ => []) :=
  ⟨#[], 0, heap_alloc_new w _, ⟨by simp, by simp, by simp⟩, by simp, fun _ _ h => absurd rfl h, by simp⟩
/-- It stays where its blocks do. -/
theorem IsIdx.step {w w1 : World} {base blk : Nat} {M : List UInt8 → List Nat} (h : IsIdx w base blk M) (hk : ∀ k, k < w.heap.size → (k = blk ∨ base ≤ k ∧ OnT w [3] k) → w1.heap[k]? = w.heap[k]?) : IsIdx w1 base blk M := by
  obtain ⟨es, clock, hb, hs, hr, hm, hd⟩ := h
  refine ⟨es, clock, (hk blk (blk_lt hb) (.inl rfl)).trans hb, hs, fun e he => ?_, hm, hd⟩
  obtain ⟨t, h1, h2, h3⟩ := hr e he
  refine ⟨t, h1, h2, Kd.R_mono (Kd.R_step (Kd.R_bound h3) (fun k ho hlt => hk k hlt (.inr ?_))) (fun _ _ => trivial)⟩
  obtain ⟨_, hb2, _, q, hq, cells, hc⟩ := ho
  refine ⟨hb2, q, cells, (0, 0), ?_, hc⟩
  simpa [Kd.int, Kd.scalar] using hq
theorem IsIdx.below {w w1 : World} {base blk : Nat} {M : List UInt8 → List Nat} (h : IsIdx w base blk M) (hb : Below w.heap.size w w1) : IsIdx w1 base blk M := h.step (fun k hk _ => hb.block k hk)
theorem IsIdx.congr {w : World} {base blk : Nat} {M M' : List UInt8 → List Nat} (h : IsIdx w base blk M) (e : ∀ t, M t = M' t) : IsIdx w base blk M' := by
  have : M = M' := funext e
  exact this ▸ h

/-- What is asked of it. -/
theorem IsIdx.look {w : World} {base blk : Nat} {M : List UInt8 → List Nat} (h : IsIdx w base blk M) (t : List UInt8) (ht : t.length = 3) :
    ∃ v, (Instr.lookup 102 (.map (some blk)) (key3V t) false).run Try.prog w = .ok v w ∧ Kd.R (Kd.int .i64) 3 w base (fun _ => True) v (nn (M t)) := by
  obtain ⟨es, clock, hb, hs, hr, hm, hd⟩ := h
  obtain ⟨l, hl⟩ := key_of t ht
  have hkeys : ∀ e ∈ es.toList, ∃ l, keyOf Try.prog 141 e.key = some l := fun e he => by
    obtain ⟨t', h1, h2, _⟩ := hr e he
    rw [h2]; exact key_of t' h1
  rcases keyLaw.find w hl es.toList hkeys with ⟨h1, h2⟩ | ⟨j, e0, h1, h2, h3⟩
  · refine ⟨.slice none 0 0, by simp [Instr.lookup, run_underlying Try.underlying102, MapKept.run_getObj_map hb, keyLaw.check w _ hl, h1, zeroInts w, Result.andThen], ?_⟩
    have e : M t = [] := by
      apply Classical.byContradiction
      intro hne
      obtain ⟨e, he, hk⟩ := hm t ht hne
      exact h2 e he hk
    rw [e]
    exact Kd.R_nil _ _ _ _ _
  · refine ⟨e0.val, by simp [Instr.lookup, run_underlying Try.underlying102, MapKept.run_getObj_map hb, keyLaw.check w _ hl, h1, Result.andThen], ?_⟩
    obtain ⟨t', g1, g2, g3⟩ := hr e0 (List.mem_of_getElem? h2)
    have : t' = t := key3V_inj (g2.symm.trans h3)
    rw [← this]; exact g3

/-- Its entry at three bytes, and the way back. -/
theorem IsIdx.enter {w : World} {base blk : Nat} {M : List UInt8 → List Nat} (h : IsIdx w base blk M) (t : List UInt8) (ht : t.length = 3) :
    ∃ (v0 : Value) (st : Nat) (es1 : Array MapEntry) (clock1 : Nat), (Instr.mapEntry 102 (.map (some blk)) (key3V t)).run Try.prog w = .ok (.tuple #[v0, goInt st]) (setBlock w blk (.map es1 clock1)) ∧
      Kd.R (Kd.int .i64) 3 (setBlock w blk (.map es1 clock1)) base (fun _ => True) v0 (nn (M t)) ∧ w.heap[blk]? ≠ none ∧ v0.ownBlock ≠ some blk ∧
      ∀ (w2 : World) (val : Value) (M' : List UInt8 → List Nat), w2.heap[blk]? = some (.map es1 clock1) → (∀ k, k < w.heap.size → k ≠ blk → some k ≠ v0.ownBlock → w2.heap[k]? = w.heap[k]?) →
        Kd.R (Kd.int .i64) 3 w2 base (fun _ => True) val (nn (M' t)) → (val.ownBlock = v0.ownBlock ∨ ∃ g, val.ownBlock = some g ∧ w.heap.size ≤ g) → (∀ t', t' ≠ t → M' t' = M t') →
        ∃ es' clock', (Instr.entryStore 102 (.map (some blk)) (goInt st) val).run Try.prog w2 = .ok () (setBlock w2 blk (.map es' clock')) ∧ IsIdx (setBlock w2 blk (.map es' clock')) base blk M' := by
  obtain ⟨es, clock, hb, hs, hr, hm, hd⟩ := h
  obtain ⟨l, hl⟩ := key_of t ht
  obtain ⟨s1, s2, s3⟩ := hs
  have hkeys : ∀ e ∈ es.toList, ∃ l, keyOf Try.prog 141 e.key = some l := fun e he => by
    obtain ⟨t', h1, h2, _⟩ := hr e he
    rw [h2]; exact key_of t' h1
  have apart : ∀ e ∈ es.toList, e.val.ownBlock ≠ some blk := fun e he hk => by
    obtain ⟨t', _, _, h3⟩ := hr e he
    have := (R_apart h3 hb).1 blk hk
    exact this.2 rfl
  -- an old row, in the world behind
  have old : ∀ (w2 : World) (v0 : Value) (M' : List UInt8 → List Nat), (∀ k, k < w.heap.size → k ≠ blk → some k ≠ v0.ownBlock → w2.heap[k]? = w.heap[k]?) → (∀ t', t' ≠ t → M' t' = M t') →
      ∀ e ∈ es.toList, e.key ≠ key3V t → (e.val.ownBlock = none ∨ e.val.ownBlock ≠ v0.ownBlock) → ∃ t', t'.length = 3 ∧ e.key = key3V t' ∧ Kd.R (Kd.int .i64) 3 w2 base (fun _ => True) e.val (nn (M' t')) := by
    intro w2 v0 M' hk hM e he hne hown
    obtain ⟨t', h1, h2, h3⟩ := hr e he
    refine ⟨t', h1, h2, ?_⟩
    rw [hM t' (fun e1 => hne (by rw [h2, e1]))]
    have h4 : Kd.R (Kd.int .i64) 3 w base (fun k => e.val.ownBlock = some k) e.val (nn (M t')) := ⟨fun k hk => hk, h3.2⟩
    refine Kd.R_mono (Kd.R_step h4 (fun k ho hlt => hk k hlt (fun e1 => apart e he (by rw [ho, e1])) (fun e1 => ?_))) (fun _ _ => trivial)
    rcases hown with h | h
    · rw [h] at ho; cases ho
    · exact h (by rw [ho, e1])
  rcases keyLaw.find w hl es.toList hkeys with ⟨h1, h2⟩ | ⟨j, e0, h1, h2, h3⟩
  · have hMt : M t = [] := by
      apply Classical.byContradiction
      intro hne
      obtain ⟨e, he, hk⟩ := hm t ht hne
      exact h2 e he hk
    refine ⟨.slice none 0 0, clock, es.push ⟨key3V t, .slice none 0 0, clock⟩, clock + 1, ?_, ?_, by rw [hb]; simp, by simp [Value.ownBlock], fun w2 val M' hw2 hkeep hval hown hM => ⟨es.push ⟨key3V t, val, clock⟩, clock + 1, ?_, ?_⟩⟩
    · simp [Instr.mapEntry, run_underlying Try.underlying102, MapKept.run_getObj_map hb, keyLaw.check w false hl, h1, zeroInts w, MapKept.run_setObj_map _ hb, Result.andThen, setBlock]
    · rw [hMt]; exact Kd.R_nil _ _ _ _ _
    · have hidx : (es.push ⟨key3V t, .slice none 0 0, clock⟩).findIdx? (fun e => ((e.born : Nat) : Int) == ((clock : Nat) : Int)) = some es.size := by
        rw [findIdx_arr]
        exact findIdx_born (l := (es.push ⟨key3V t, .slice none 0 0, clock⟩).toList) (j := es.size) (e0 := ⟨key3V t, .slice none 0 0, clock⟩) (by
          simp only [Array.toList_push, List.map_append, List.map_cons, List.map_nil]
          refine List.nodup_append.2 ⟨s2, by simp, fun a ha c hc e1 => ?_⟩
          simp only [List.mem_singleton] at hc
          obtain ⟨x, hx, rfl⟩ := List.mem_map.1 ha
          have := s1 x hx
          omega) (by simp)
      have hmod : (es.push ⟨key3V t, .slice none 0 0, clock⟩).modify es.size (fun e => { e with val := val }) = es.push ⟨key3V t, val, clock⟩ := by
        apply Array.ext'
        rw [Array.toList_modify, Array.toList_push, Array.toList_push, ← Array.length_toList, modify_last]
      simp [Instr.entryStore, MapKept.run_getObj_map hw2, asInt, asIntOf, goInt, hidx, hmod, MapKept.run_setObj_map _ hw2, Result.andThen, setBlock]
    · refine ⟨_, _, setBlock_same hw2 _, ⟨?_, ?_, ?_⟩, ?_, ?_, ?_⟩
      · intro x hx
        simp only [Array.toList_push, List.mem_append, List.mem_singleton] at hx
        rcases hx with hx | rfl
        · have := s1 x hx; omega
        · simp
      · simp only [Array.toList_push, List.map_append, List.map_cons, List.map_nil]
        refine List.nodup_append.2 ⟨s2, by simp, fun a ha c hc e1 => ?_⟩
        simp only [List.mem_singleton] at hc
        obtain ⟨x, hx, rfl⟩ := List.mem_map.1 ha
        have := s1 x hx
        omega
      · simp only [Array.toList_push, List.map_append, List.map_cons, List.map_nil]
        refine List.nodup_append.2 ⟨s3, by simp, fun a ha c hc e1 => ?_⟩
        simp only [List.mem_singleton] at hc
        obtain ⟨x, hx, rfl⟩ := List.mem_map.1 ha
        exact h2 x hx (by rw [e1, hc])
      · intro e he
        simp only [Array.toList_push, List.mem_append, List.mem_singleton] at he
        rcases he with he | rfl
        · obtain ⟨t', g1, g2, g3⟩ := old w2 (.slice none 0 0) M' hkeep hM e he (h2 e he) (by cases e.val.ownBlock <;> simp [Value.ownBlock])
          exact ⟨t', g1, g2, R_setBlock g3 hw2 _⟩
        · exact ⟨t, ht, rfl, R_setBlock hval hw2 _⟩
      · intro t' ht' hne
        by_cases e : t' = t
        · subst e
          exact ⟨⟨key3V t', val, clock⟩, by simp, rfl⟩
        · rw [hM t' e] at hne
          obtain ⟨x, hx, hk⟩ := hm t' ht' hne
          exact ⟨x, by simp; exact .inl (by simpa using hx), hk⟩
      · have fresh : ∀ e ∈ es.toList, e.val.ownBlock = none ∨ e.val.ownBlock ≠ val.ownBlock := by
          intro e he
          rcases hown with h | ⟨g, h, hg⟩
          · rw [h]; cases e.val.ownBlock <;> simp [Value.ownBlock]
          · rw [h]
            obtain ⟨t', _, _, g3⟩ := hr e he
            cases ho : e.val.ownBlock with
            | none => exact .inl rfl
            | some k =>
              have := own_mem g3 k ho
              refine .inr (fun e1 => ?_)
              cases e1; omega
        intro e he e' he' hne
        simp only [Array.toList_push, List.mem_append, List.mem_singleton] at he he'
        rcases he with he | rfl <;> rcases he' with he' | rfl
        · exact hd e he e' he' hne
        · exact fresh e he
        · rcases fresh e' he' with h | h
          · rw [h]
            cases hv : val.ownBlock with
            | none => exact .inl rfl
            | some k => exact .inr (by simp)
          · exact .inr (fun e1 => h e1.symm)
        · exact absurd rfl hne
  · have hm0 : e0 ∈ es.toList := List.mem_of_getElem? h2
    have hj : es[j]? = some e0 := by simpa using h2
    have hsame : es.modify j (fun e => { e with key := key3V t }) = es := by
      apply Array.ext'
      rw [Array.toList_modify, ChangeMaps.modify_eq_set _ _ _ _ h2]
      have : ({ e0 with key := key3V t } : MapEntry) = e0 := by rw [← h3]
      rw [this]
      exact set_self _ _ _ h2
    obtain ⟨t0, q1, q2, q3⟩ := hr e0 hm0
    obtain rfl : t0 = t := key3V_inj (q2.symm.trans h3)
    refine ⟨e0.val, e0.born, es, clock, ?_, R_setBlock q3 hb _, by rw [hb]; simp, apart e0 hm0, fun w2 val M' hw2 hkeep hval hown hM => ⟨es.modify j (fun e' => { e' with val := val }), clock, ?_, ?_⟩⟩
    · simp [Instr.mapEntry, run_underlying Try.underlying102, MapKept.run_getObj_map hb, keyLaw.check w false hl, h1, hj, h3, keyLaw.stays w hl, hsame, MapKept.run_setObj_map _ hb, Result.andThen, setBlock]
    · have hidx : es.findIdx? (fun e => ((e.born : Nat) : Int) == ((e0.born : Nat) : Int)) = some j := by
        rw [findIdx_arr]
        exact findIdx_born s2 h2
      simp [Instr.entryStore, MapKept.run_getObj_map hw2, asInt, asIntOf, goInt, hidx, MapKept.run_setObj_map _ hw2, Result.andThen, setBlock]
    · have hl2 : (es.modify j (fun e' => { e' with val := val })).toList = es.toList.set j { e0 with val := val } := by
        rw [Array.toList_modify, ChangeMaps.modify_eq_set _ _ _ _ h2]
      have hjl : j < es.toList.length := (List.getElem?_eq_some_iff.1 h2).1
      have hej : es.toList[j] = e0 := (List.getElem?_eq_some_iff.1 h2).2
      have hb3 : (es.toList.set j { e0 with val := val }).map (·.born) = es.toList.map (·.born) := by
        rw [List.map_set]
        exact set_self _ _ _ (by rw [List.getElem?_map, h2]; rfl)
      have hk3 : (es.toList.set j { e0 with val := val }).map (·.key) = es.toList.map (·.key) := by
        rw [List.map_set]
        exact set_self _ _ _ (by rw [List.getElem?_map, h2]; rfl)
      -- who is in it
      have who : ∀ e ∈ es.toList.set j { e0 with val := val }, (e ∈ es.toList ∧ e.key ≠ key3V t0) ∨ e = { e0 with val := val } := by
        intro e he
        obtain ⟨i, hi, ei⟩ := List.mem_iff_getElem.1 he
        rw [List.length_set] at hi
        rw [List.getElem_set] at ei
        by_cases hij : j = i
        · rw [if_pos hij] at ei; exact .inr ei.symm
        · rw [if_neg hij] at ei
          refine .inl ⟨ei ▸ List.getElem_mem hi, fun hk => hij ?_⟩
          have a1 : (es.toList.map (·.key))[j]'(by simpa using hjl) = (es.toList.map (·.key))[i]'(by simpa using hi) := by
            simp only [List.getElem_map]
            have e2 : es.toList[j].key = key3V t0 := by rw [hej, h3]
            have e3 : es.toList[i].key = key3V t0 := by rw [ei]; exact hk
            rw [e2, e3]
          rcases Nat.lt_trichotomy j i with h | h | h
          · exact absurd a1 (List.pairwise_iff_getElem.1 s3 j i (by simpa using hjl) (by simpa using hi) h)
          · exact h
          · exact absurd a1.symm (List.pairwise_iff_getElem.1 s3 i j (by simpa using hi) (by simpa using hjl) h)
      have fresh : ∀ e ∈ es.toList, e.key ≠ key3V t0 → e.val.ownBlock = none ∨ e.val.ownBlock ≠ val.ownBlock := by
        intro e he hne
        rcases hown with h | ⟨g, h, hg⟩
        · rw [h]; exact hd e he e0 hm0 (by rw [h3]; exact hne)
        · rw [h]
          obtain ⟨t', _, _, g3⟩ := hr e he
          cases ho : e.val.ownBlock with
          | none => exact .inl rfl
          | some k =>
            have := own_mem g3 k ho
            refine .inr (fun e1 => ?_)
            cases e1; omega
      refine ⟨_, _, setBlock_same hw2 _, ⟨?_, ?_, ?_⟩, ?_, ?_, ?_⟩
      · rw [hl2]
        intro x hx
        rcases who x hx with ⟨h, _⟩ | h
        · exact s1 x h
        · rw [h]; exact s1 e0 hm0
      · rw [hl2, hb3]; exact s2
      · rw [hl2, hk3]; exact s3
      · rw [hl2]
        intro e he
        rcases who e he with ⟨h, hne⟩ | h
        · obtain ⟨t', g1, g2, g3⟩ := old w2 e0.val M' hkeep hM e h hne (hd e h e0 hm0 (by rw [h3]; exact hne))
          exact ⟨t', g1, g2, R_setBlock g3 hw2 _⟩
        · rw [h]; exact ⟨t0, ht, h3, R_setBlock hval hw2 _⟩
      · rw [hl2]
        intro t' ht' hne
        by_cases e : t' = t0
        · subst e
          exact ⟨{ e0 with val := val }, List.mem_iff_getElem.2 ⟨j, by rw [List.length_set]; exact hjl, by rw [List.getElem_set, if_pos rfl]⟩, h3⟩
        · rw [hM t' e] at hne
          obtain ⟨x, hx, hk⟩ := hm t' ht' hne
          obtain ⟨i, hi, ei⟩ := List.mem_iff_getElem.1 hx
          have hij : j ≠ i := fun e1 => by
            subst e1
            rw [hej] at ei
            exact e (key3V_inj (by rw [← hk, ← ei, h3]))
          exact ⟨x, List.mem_iff_getElem.2 ⟨i, by rw [List.length_set]; exact hi, by rw [List.getElem_set, if_neg hij]; exact ei⟩, hk⟩
      · rw [hl2]
        intro e he e' he' hne
        rcases who e he with ⟨h, hk⟩ | h <;> rcases who e' he' with ⟨h', hk'⟩ | h'
        · exact hd e h e' h' hne
        · rw [h']; exact fresh e h hk
        · rw [h]
          rcases fresh e' h' hk' with g | g
          · rw [g]
            cases hv : val.ownBlock with
            | none => exact .inl rfl
            | some k => exact .inr (by simp)
          · exact .inr (fun e1 => g e1.symm)
        · rw [h, h'] at hne; exact absurd rfl hne
end Go.Proofs.Ythfkjejjndgajaa

/- The longest that stood ahead, by the map (match.index.find). -/
namespace Go.Proofs.Ythfkjejjndgajaa
open Go.RowKit Go.Proofs.YthfkjejjndgajaaW.PrintWords
open Rq (sameM key3 at3 bestOf findM)

theorem key3_len (b : List UInt8) (k : Nat) (h : k + 3 ≤ b.length) : (key3 b k).length = 3 := by unfold key3; rw [List.length_take, List.length_drop]; omega
/-- What leads to three bytes as a key. -/
theorem key_runs {w : World} {A : Option Addr} {c : Nat} {b : List UInt8} (hr : Kd.C (Kd.int .u8) w A b.length (bnums b)) (hc : b.length ≤ c) (k : Nat) (hk : k + 3 ≤ b.length) :
    ∃ (ad : Addr) (x y z : UInt8), key3 b k = [x, y, z] ∧ (∀ W : World, (Instr.slice 22 (.slice A b.length c) (some (.int .i64 (k : Int))) (some (.int .i64 ((k : Int) + 3))) none).run Try.prog W = .ok (.slice (some ad) 3 (c - k)) W) ∧
      (∀ W : World, (Instr.arrayAt 141 (.slice (some ad) 3 (c - k))).run Try.prog W = .ok (.pointer (some ad)) W) ∧
      (∀ W : World, Below w.heap.size w W → W.cell? ad = some (.int .u8 (x.toNat : Int)) ∧ W.cell? ⟨ad.block, ad.off + 1, none⟩ = some (.int .u8 (y.toNat : Int)) ∧ W.cell? ⟨ad.block, ad.off + 2, none⟩ = some (.int .u8 (z.toNat : Int))) := by
  obtain ⟨i, hi, hzz⟩ := Option.map_eq_some_iff.1 info_u8
  simp only [Prod.mk.injEq] at hzz
  obtain ⟨A', h1, h2, h3⟩ := print_mid_int (k := .u8) (P := Try.prog) 22 5 Try.underlying22 hi hzz.2.1 A c (bnums b) (k : Int) ((k : Int) + 3) (by omega) (by omega) (by rw [bnums_length]; omega) (by rw [bnums_length]; exact hc)
  have e1 : (((bnums b).take ((k : Int) + 3).toNat).drop (k : Int).toNat) = bnums (key3 b k) := by
    rw [show ((k : Int) + 3).toNat = k + 3 by omega, Int.toNat_natCast]
    unfold bnums key3
    rw [← List.map_take, ← List.map_drop, List.drop_take, show k + 3 - k = 3 by omega]
  have hl3 := key3_len b k hk
  have hl : (bnums (key3 b k)).length = 3 := by rw [bnums_length]; exact hl3
  rw [e1, hl] at h1 h2
  rw [bnums_length] at h1 h2
  rw [Int.toNat_natCast] at h1
  obtain ⟨x, y, z, he⟩ : ∃ x y z, key3 b k = [x, y, z] := by
    match key3 b k, hl3 with
    | [x, y, z], _ => exact ⟨x, y, z, rfl⟩
  rw [he] at h2
  have hC : ∀ W : World, Below w.heap.size w W → ReadsInt W .u8 A' 3 (bnums [x, y, z]) := fun W hW => h2 W (Kd.reads_of_C (Kd.C_below hr hW))
  obtain ⟨ad, rfl, _⟩ := (hC w (Below.refl _ _)).at_ 0 (by decide) (by decide)
  refine ⟨ad, x, y, z, he, h1, fun W => by simp [Instr.arrayAt, run_underlying Try.underlying141, Result.andThen], fun W hW => ⟨?_, ?_, ?_⟩⟩
  · obtain ⟨_, e, h⟩ := (hC W hW).at_ 0 (by decide) (by decide)
    cases e
    have h' : W.cell? (ad.add 0) = some (.int .u8 (x.toNat : Int)) := h
    simpa [Addr.add] using h'
  · obtain ⟨_, e, h⟩ := (hC W hW).at_ 1 (by decide) (by decide)
    cases e
    have h' : W.cell? (ad.add 1) = some (.int .u8 (y.toNat : Int)) := h
    simpa [Addr.add] using h'
  · obtain ⟨_, e, h⟩ := (hC W hW).at_ 2 (by decide) (by decide)
    cases e
    have h' : W.cell? (ad.add 2) = some (.int .u8 (z.toNat : Int)) := h
    simpa [Addr.add] using h'

theorem best_step (b : List UInt8) (k : Nat) (l : List Nat) (j : Nat) (h : j < l.length) : bestOf b k (l.drop j) = if (bestOf b k (l.drop (j + 1))).1 < sameM b l[j] k then (sameM b l[j] k, k - l[j]) else bestOf b k (l.drop (j + 1)) := by
  rw [List.drop_eq_getElem_cons h, bestOf]

set_option maxHeartbeats 1000000 in
set_option maxRecDepth 100000 in
theorem find_calls {w : World} {base blk : Nat} {A : Option Addr} {c m : Nat} {b : List UInt8} (hI : IsIdx w base blk (at3 b m)) (hr : Kd.C (Kd.int .u8) w A b.length (bnums b)) (hc : b.length ≤ c) (hn : b.length ≤ 3000) (k : Nat) (z : Int) (hz : z = k) (hk : k ≤ b.length) (hm : m ≤ k) :
    Calls Try.prog 59 #[.map (some blk), .slice A b.length c, .int .i64 z] w fun e w' => e = .returned (.tuple #[.int .i64 ((findM b m k).1 : Int), .int .i64 ((findM b m k).2 : Int)]) ∧ Drawn0 w w' := by
  subst hz
  have HC := Aside0.mk hr
  have HI := Aside0.mk hI
  have HL := Aside0.mk hc
  obtain ⟨n, hnd⟩ : ∃ n, n = b.length := ⟨_, rfl⟩
  clear hr hI hc
  by_cases h3 : k + 3 ≤ b.length
  · obtain ⟨ad, x0, y0, z0, hk3, hs1, hs2, hs3⟩ := key_runs HC.out HL.out k h3
    obtain ⟨v, hv1, hv2⟩ := HI.out.look (key3 b k) (key3_len b k h3)
    obtain ⟨p0, p1, p2⟩ := hs3 w (Below.refl _ _)
    obtain ⟨A1, c1, rfl⟩ := Kd.R_slice hv2
    have HR := Aside0.mk (Kd.R_reads' hv2)
    have hfm : findM b m k = bestOf b k (at3 b m (key3 b k)) := if_pos h3
    rw [nn_length] at hv1
    have hv1' : (Instr.lookup 102 (.map (some blk)) (.agg #[.int .u8 (x0.toNat : Int), .int .u8 (y0.toNat : Int), .int .u8 (z0.toNat : Int)]) false).run Try.prog w = .ok (.slice A1 (at3 b m (key3 b k)).length c1) w := by
      rw [hk3] at hv1 ⊢; exact hv1
    have hll := Rq.at3_len b m (key3 b k)
    have hlt := Rq.at3_lt b m (key3 b k)
    obtain ⟨l, hl⟩ : ∃ l, l = at3 b m (key3 b k) := ⟨_, rfl⟩
    rw [← hl] at hv1' hll hfm HR hlt
    obtain ⟨len, hlen⟩ : ∃ len, len = l.length := ⟨_, rfl⟩
    rw [nn_length] at HR
    rw [← hnd] at hs1 hn hk h3
    rw [← hlen] at hv1' hll HR
    have HN := Aside0.mk (And.intro hnd (And.intro hlen (And.intro hfm hlt)))
    clear hs3 hv1 hv2 hfm hnd hlen hk3 hl hlt
    rw [← HN.out.1]
    go_enter Try.func59, Try.ntmps59
    go_wp2_with fail
    go_loopw [6, 7, 9] (fun v6 v7 v9 wr => ∃ j x y : Nat, v9 = .int .i64 ((j : Int) - 1) ∧ j ≤ len ∧ v6 = .int .i64 x ∧ v7 = .int .i64 y ∧ x ≤ 258 ∧ Aside0 (bestOf b k (l.drop j) = (x, y)) ∧ Drawn0 w wr) (fun _ _ v9 _ => (intOf v9 + 1).toNat)
    case atStart => exact ⟨len, 0, 0, rfl, Nat.le_refl _, rfl, rfl, by decide, ⟨by rw [List.drop_eq_nil_of_le (by have := HN.out.2.1; omega)]; rfl⟩, Drawn0.refl _⟩
    case round =>
      obtain ⟨j, x, y, rfl, hj, rfl, rfl, hx, HB, HD⟩ := hrel
      clear p0 p1 p2 hs1 hs2 hv1'
      cases j with
      | zero =>
        have e : (((0 : Nat) : Int) - 1) = -1 := rfl
        rw [e]
        clear e
        go_wp2_with fail
        go_ret2
        refine ⟨?_, HD⟩
        have h1 := HB.out
        rw [List.drop_zero] at h1
        rw [HN.out.2.2.1, h1]
        rfl
      | succ q =>
        have e : (((q + 1 : Nat) : Int) - 1) = (q : Int) := by omega
        rw [e]
        obtain ⟨ad1, hA1, hcell⟩ := Kd.at_int (Kd.C_below HR.out.2.2 HD.below) (q : Int) (by omega) (by omega)
        cases hA1
        rw [rd_nn, Int.toNat_natCast] at hcell
        obtain ⟨i, hi⟩ : ∃ i, i = l.getD q 0 := ⟨_, rfl⟩
        rw [← hi] at hcell
        have hql : q < l.length := by have := HN.out.2.1; omega
        have hi2 : i ∈ l := by
          rw [hi, List.getD_eq_getElem?_getD, List.getElem?_eq_getElem hql]
          exact List.getElem_mem hql
        have hik : i < k := by
          have := HN.out.2.2.2 i hi2
          omega
        have e1 : (q : Int) < len := by omega
        have HQ := Aside0.mk (show q < l.length ∧ ∀ h : q < l.length, l[q] = i from ⟨hql, fun h => by rw [hi, List.getD_eq_getElem?_getD, List.getElem?_eq_getElem h]; rfl⟩)
        clear hi hi2 hql e
        have HS := Aside0.mk (same_calls (w := wr) (A := A) (n := n) (c := c) (b := b) (by have := Kd.C_below HC.out HD.below; rw [HN.out.1]; exact this) (by have := HL.out; have := HN.out.1; omega) (by omega) i k (i : Int) (k : Int) rfl rfl (by omega) hk)
        go_wp2_with fail
        refine HS.out.mono ?_
        rintro e w1 ⟨rfl, hD1⟩
        obtain ⟨⟨nd, rfl⟩⟩ := hD1
        have hs258 := Rq.sameM_le b i k
        obtain ⟨s, hs⟩ : ∃ s, s = sameM b i k := ⟨_, rfl⟩
        rw [← hs] at hs258 ⊢
        have HSM := Aside0.mk hs
        have HD1 := HD.step nd
        have hst : bestOf b k (l.drop q) = if x < s then (s, k - i) else (x, y) := by
          rw [best_step b k l q HQ.out.1, HQ.out.2 HQ.out.1, HB.out, ← hs]
        have HST := Aside0.mk hst
        clear hs HS hst
        by_cases hxs : x < s
        · have x1 : (x : Int) < s := by omega
          go_wp2_with fail
          go_quiet (fail)
          go_wp2_with fail
          go_roundw
          case rel => exact ⟨q, s, k - i, rfl, by omega, rfl, by go_num, hs258, ⟨by rw [HST.out, if_pos hxs]⟩, HD.step _⟩
          case measure => simp [intOf]
        · have x1 : ¬ (x : Int) < s := by omega
          go_wp2_with fail
          go_roundw
          case rel => exact ⟨q, x, y, rfl, by omega, rfl, rfl, hx, ⟨by rw [HST.out, if_neg hxs]⟩, HD1⟩
          case measure => simp [intOf]
  · have hfm : findM b m k = (0, 0) := if_neg h3
    have HF := Aside0.mk hfm
    rw [← hnd] at hn hk h3
    have HN := Aside0.mk hnd
    clear hfm hnd
    rw [← HN.out]
    go_enter Try.func59, Try.ntmps59
    go_wp2_with fail
    go_ret2
    exact ⟨by rw [HF.out]; rfl, Drawn0.refl _⟩
end Go.Proofs.Ythfkjejjndgajaa

/- One place more is put into the map (match.index.put). -/
namespace Go.Proofs.Ythfkjejjndgajaa
open Go.RowKit Go.Proofs.YthfkjejjndgajaaW.PrintWords
open Go.ChangeMaps (setBlock)
open Rq (sameM key3 at3 bestOf findM)

/-- w' is w, but for new blocks, the map's block, and rows of numbers from base on. -/
structure FrM (base blk : Nat) (w w' : World) : Prop where
  os : w'.os = w.os
  tape : w'.tape = w.tape
  output : w'.output = w.output
  size : w.heap.size ≤ w'.heap.size
  block : ∀ k, k < w.heap.size → k ≠ blk → (base ≤ k → ¬ OnT w [3] k) → w'.heap[k]? = w.heap[k]?
theorem FrM.of_below {base blk : Nat} {w w1 : World} (h : Below w.heap.size w w1) : FrM base blk w w1 := ⟨h.os, h.tape, h.output, h.size, fun i hi _ _ => h.block i hi⟩
theorem FrM.trans {base blk : Nat} {w w1 w2 : World} (h : FrM base blk w w1) (k : FrM base blk w1 w2) : FrM base blk w w2 :=
  ⟨k.os.trans h.os, k.tape.trans h.tape, k.output.trans h.output, Nat.le_trans h.size k.size, fun i hi hne hn => by
    have e := h.block i hi hne hn
    exact (k.block i (Nat.lt_of_lt_of_le hi h.size) hne (fun hb => OnT.same e (hn hb))).trans e⟩
theorem FrM.to_below {base blk B : Nat} {w w1 : World} (h : FrM base blk w w1) (hb : B ≤ base) (hblk : B ≤ blk) (hB : B ≤ w.heap.size) : Below B w w1 :=
  ⟨h.os, h.tape, h.output, h.size, fun i hi => h.block i (Nat.lt_of_lt_of_le hi hB) (by omega) (fun h2 => by omega)⟩

set_option maxHeartbeats 1000000 in
set_option maxRecDepth 100000 in
theorem put3_calls {w : World} {base blk : Nat} {A : Option Addr} {c : Nat} {b : List UInt8} (k : Nat) (hI : IsIdx w base blk (at3 b k)) (hbase : base ≤ w.heap.size) (hr : Kd.C (Kd.int .u8) w A b.length (bnums b)) (hc : b.length ≤ c) (hn : b.length ≤ 3000) (z : Int) (hz : z = k) (hk : k ≤ 3000) :
    Calls Try.prog 60 #[.map (some blk), .slice A b.length c, .int .i64 z] w fun e w' => e = .returned (.tuple #[]) ∧ IsIdx w' base blk (at3 b (k + 1)) ∧ FrM base blk w w' := by
  subst hz
  have HC := Aside0.mk hr
  have HI := Aside0.mk hI
  have HL := Aside0.mk hc
  obtain ⟨n, hnd⟩ : ∃ n, n = b.length := ⟨_, rfl⟩
  clear hr hI hc
  by_cases h3 : k + 3 ≤ b.length
  · obtain ⟨ad, x0, y0, z0, hk3, hs1, hs2, hs3⟩ := key_runs HC.out HL.out k h3
    obtain ⟨p0, p1, p2⟩ := hs3 w (Below.refl _ _)
    obtain ⟨K, hK⟩ : ∃ K : Obj, K = .cells #[.int .u8 (x0.toNat : Int), .int .u8 (y0.toNat : Int), .int .u8 (z0.toNat : Int)] 141 := ⟨_, rfl⟩
    have hB2 : Below w.heap.size w ((w.alloc K).alloc (.cells #[.int .i64 (k : Int)] 3)) := below_alloc (below_alloc (Below.refl _ _) _) _
    obtain ⟨v0, st, es1, clock1, hme, hv0, hnb, hob, hback⟩ := (HI.out.below hB2).enter (key3 b k) (key3_len b k h3)
    obtain ⟨W2, hW2⟩ : ∃ W2 : World, W2 = (w.alloc K).alloc (.cells #[.int .i64 (k : Int)] 3) := ⟨_, rfl⟩
    have hblt : blk < W2.heap.size := by
      obtain ⟨es, clock, hb, _⟩ := HI.out.below hB2
      rw [hW2]; exact blk_lt hb
    obtain ⟨W3, hW3⟩ : ∃ W3 : World, W3 = setBlock W2 blk (.map es1 clock1) := ⟨_, rfl⟩
    have hsrc : ∀ W : World, W.heap[w.heap.size + 1]? = W2.heap[w.heap.size + 1]? → Kd.C (Kd.int .i64) W (some ⟨w.heap.size + 1, 0, none⟩) 1 [(k : Int)] := by
      intro W hW
      have hb : W.heap[w.heap.size + 1]? = some (.cells #[.int .i64 (k : Int)] 3 (0, 0)) := by
        rw [hW, hW2]
        have := heap_alloc_new (w.alloc K) (.cells #[.int .i64 (k : Int)] 3)
        rw [show (w.alloc K).heap.size = w.heap.size + 1 by simp] at this
        exact this
      refine Kd.C_of_reads (enc := Value.int .i64) (d := (0 : Int)) (h1 := fun _ => rfl) ⟨rfl, by decide, fun _ => ⟨_, rfl, fun j hj => ?_⟩⟩
      obtain rfl : j = 0 := by omega
      simp [Addr.add, World.cell?, hb]
    have hsz : W2.heap.size = w.heap.size + 2 := by rw [hW2]; simp
    have hsz3 : W3.heap.size = w.heap.size + 2 := by rw [hW3, setBlock_size, hsz]
    have hne : blk ≠ w.heap.size + 1 := by
      obtain ⟨es, clock, hb, _⟩ := HI.out
      have := blk_lt hb; omega
    have hC3 : Kd.C (Kd.int .i64) W3 (some ⟨w.heap.size + 1, 0, none⟩) 1 [(k : Int)] := hsrc W3 (by rw [hW3]; exact setBlock_far (fun e => hne e.symm) _)
    have hb3 : W3.heap[blk]? = some (.map es1 clock1) := by
      rw [hW3]
      unfold setBlock
      rw [Array.getElem?_setIfInBounds, if_pos rfl, if_pos hblt]
    rw [← hW2] at hme hback
    rw [← hW2, ← hW3] at hv0
    rw [← hW3] at hme
    have hml := Rq.at3_len b k (key3 b k)
    have HN := Aside0.mk (And.intro hnd (And.intro hk3 h3))
    have HB := Aside0.mk (And.intro hback (And.intro hb3 (And.intro hob (And.intro hW2 (And.intro hW3 hsz)))))
    have H3 := Aside0.mk (And.intro hv0 hC3)
    have hl0 := Aside0.mk (show ((nn (at3 b k (key3 b k))).length + 1) * 8 ≤ 140737488355328 by rw [nn_length]; omega)
    rw [hk3] at hme
    have hme' : (Instr.mapEntry 102 (.map (some blk)) (.agg #[.int .u8 (x0.toNat : Int), .int .u8 (y0.toNat : Int), .int .u8 (z0.toNat : Int)])).run Try.prog W2 = .ok (.tuple #[v0, goInt st]) W3 := hme
    rw [← hnd] at hs1 hn h3
    have hK' := Lib.hid hK
    have hW2' := Lib.hid hW2
    clear hs3 hnd hk3 hsrc hv0 hnb hob hback hW3 hb3 hne hC3 hblt hme hml hB2 hsz
    have HS := Aside0.mk hsz3
    clear hsz3
    rw [← HN.out.1]
    go_enter Try.func60, Try.ntmps60
    go_upto_region 2 with fail
    rw [← hK'.out]
    have hcK : (w.alloc K).cell? ⟨w.heap.size, 0, none⟩ = some (.int .u8 (x0.toNat : Int)) := by rw [hK'.out]; simp [go_sem]
    have hcK1 : (w.alloc K).cell? ⟨w.heap.size, 1, none⟩ = some (.int .u8 (y0.toNat : Int)) := by rw [hK'.out]; simp [go_sem]
    have hcK2 : (w.alloc K).cell? ⟨w.heap.size, 2, none⟩ = some (.int .u8 (z0.toNat : Int)) := by rw [hK'.out]; simp [go_sem]
    have hsK : (w.alloc K).heap.size = w.heap.size + 1 := by simp
    generalize hWK : w.alloc K = WK at hcK hcK1 hcK2 hsK ⊢
    have hWe : WK.alloc (.cells #[.int .i64 (k : Int)] 3) = W2 := by rw [hW2'.out, hWK]
    rw [← hWe] at hme'
    have Hwe := Aside0.mk hWe
    clear hWe
    have hbase2 : base ≤ w.heap.size := hbase
    go_wp2_with (first
      | (at_builtin
         go_must (refine Kd.R_append_rows (Kd.int .i64) (w0 := W3) base rfl (.tmp 21) (.tmp 23) 30 3 (.int .i64 0) 8 rfl Try.underlying30 info_i3 rfl (by decide) (by decide) _ (nn (at3 b k (key3 b k))) [(k : Int)] (some ⟨w.heap.size + 1, 0, none⟩) 1 1 (fun _ => True) (fun _ => False) rfl rfl H3.out.1 H3.out.2 (fun x cs h => h) (fun _ h => h.elim) (fun _ _ => trivial) (Below.refl _ _) (by have := HS.out; omega) hl0.out ?_)
         intro v1 w4 HO4 HB4 hg4 hat4
         have H4 := Aside0.mk (And.intro HO4 (And.intro HB4 (And.intro hg4 hat4)))
         clear HO4 HB4 hg4 hat4
         obtain ⟨hback, hb3, hob, hW2, hW3, hsz⟩ := HB.out
         have hb4 : w4.heap[blk]? = some (.map es1 clock1) := (H4.out.2.2.1.block blk (blk_lt hb3) (fun e => hob e.symm)).trans hb3
         have hkeep : ∀ j, j < W2.heap.size → j ≠ blk → some j ≠ v0.ownBlock → w4.heap[j]? = W2.heap[j]? := fun j hj hne ho => by
           have h1 := H4.out.2.2.1.block j (by have := HS.out; omega) ho
           rw [h1, hW3]
           exact setBlock_far hne _
         obtain ⟨es', clock', hes, hI'⟩ := hback w4 v1 (at3 b (k + 1)) hb4 hkeep (by
             have e : nn (at3 b (k + 1) (key3 b k)) = nn (at3 b k (key3 b k)) ++ [(k : Int)] := by
               rw [Rq.at3_put b k _ HN.out.2.2, if_pos rfl, nn_append]; rfl
             rw [e]; exact H4.out.1)
           (by
             rcases H4.out.2.2.2 with h | ⟨g, h, hg⟩
             · exact .inl h
             · exact .inr ⟨g, h, by have := HS.out; omega⟩)
           (fun t' ht => by rw [Rq.at3_put b k _ HN.out.2.2, if_neg (fun e => ht e.symm)])
         have hes' : (Instr.entryStore 102 (.map (some blk)) (.int .i64 (st : Int)) v1).run Try.prog w4 = .ok () (setBlock w4 blk (.map es' clock')) := hes
         obtain ⟨W5, hW5⟩ : ∃ W5 : World, W5 = setBlock w4 blk (.map es' clock') := ⟨_, rfl⟩
         rw [← hW5] at hes' hI'
         have H5 := Aside0.mk (And.intro hI' (And.intro hW5 hkeep))
         clear hback hb3 hob hW2 hW3 hsz hb4 hkeep hes hI' hW5))
    go_end0
    refine ⟨rfl, H5.out.1, ?_⟩
    have hg := H4.out.2.2.1
    have hs2 := HB.out.2.2.2.2.2
    have hs3 := HS.out
    have hw3 := HB.out.2.2.2.2.1
    have hw2 := HB.out.2.2.2.1
    have hB2 : Below w.heap.size w W2 := by rw [hw2]; exact below_alloc (below_alloc (Below.refl _ _) _) _
    have hw5 := H5.out.2.1
    refine ⟨?_, ?_, ?_, ?_, fun j hj hne hn => ?_⟩
    · rw [hw5]; show w4.os = w.os; rw [hg.os, hw3]; exact hB2.os
    · rw [hw5]; show w4.tape = w.tape; rw [hg.tape, hw3]; exact hB2.tape
    · rw [hw5]; show w4.output = w.output; rw [hg.output, hw3]; exact hB2.output
    · rw [hw5, setBlock_size]; have := hg.size; omega
    · rw [hw5, setBlock_far hne]
      by_cases ho : some j = v0.ownBlock
      · exfalso
        obtain ⟨cells, hty⟩ := Kd.R_typed H3.out.1 j ho.symm
        have hbs := Kd.R_base H3.out.1 j ho.symm
        rw [hw3, setBlock_far hne, hB2.block j hj] at hty
        exact hn hbs ⟨_, cells, (0, 0), by simp, hty⟩
      · rw [H5.out.2.2 j (by omega) hne ho, hB2.block j hj]
  · have hat := Rq.at3_not b k
    rw [← hnd] at hn h3
    have HN := Aside0.mk (And.intro hnd (show ∀ t, at3 b (k + 1) t = at3 b k t from fun t => hat t (by rw [← hnd]; exact h3)))
    clear hnd hat
    rw [← HN.out.1]
    go_enter Try.func60, Try.ntmps60
    go_wp2_with fail
    go_end0
    exact ⟨rfl, HI.out.congr (fun t => (HN.out.2 t).symm), .of_below (Below.refl _ _)⟩
end Go.Proofs.Ythfkjejjndgajaa
