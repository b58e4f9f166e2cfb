/- What some functions give. -/
import Derived.Test.YthlkeifhdihihaaGreatDoorOwn
set_option linter.unusedVariables false
set_option linter.unusedSimpArgs false
namespace Cub
open Own
variable {XP : Nat → Option Fun}

/-- 'ring' of package links. -/
theorem ring_gives (hf : XP 762 = some f762) {st : St} {h L n : Nat} {rest : List V} {f : V} (hL : cellsAt st L = some (f :: .int .i64 n :: rest)) (hn : n + h < 4294967296) :
    Gives XP 762 [.int .i64 h, .ptr (some (L, 0))] st (fun v s => v = .int .u32 (n + h : Nat) ∧ s = st) := by
  refine gives_wp hf ?_
  have hl : loadN st L 1 1 = some [.int .i64 n] := by simp [loadC hL]
  have hw : Go.IntKind.wrap .u32 (Go.IntKind.wrap .i64 (↑n + ↑h)) = ((n + h : Nat) : Int) := by
    rw [w_i64 (by omega) (by omega), w_u32 (by omega) (by omega)]; omega
  simp [f762, s, step1, enterEnv, hl, pack, bin, binInt, convV, resV, resAll, resOne, hw]

def zero3 : List V := [.int .u32 0, .int .u32 0, .int .u32 0]
def ringCells (n i : Nat) : List V := [.int .u32 (n + i : Nat), .int .u32 (n + i : Nat), .int .u32 (i + 1 : Nat)]
def fieldCells (n h i : Nat) : List V := rep zero3 n ++ ((List.range i).flatMap (ringCells n) ++ rep zero3 (h - i))
def linksCells (b n h : Nat) : List V := [.slice (some (b, 0)) (n + h) (.is (n + h)), .int .i64 n, .slice (some (b + 1, 0)) h (.is h)]

/-- 'New' of package links: the state behind it. -/
def linksState (st : St) (n h i : Nat) : St :=
  ((st.new (.cells (fieldCells n h i) none)).new (.cells (List.replicate h (.int .i64 0)) none)).new (.cells (linksCells st.next n h) none)

theorem rep_len (l : List V) (n : Nat) : (rep l n).length = n * l.length := by
  induction n with
  | zero => simp [rep]
  | succ n ih => simp only [rep, List.replicate_succ, List.flatten_cons, List.length_append] at *; rw [ih, Nat.add_mul]; omega
theorem rep_next (l : List V) (n : Nat) : rep l (n + 1) = l ++ rep l n := by simp [rep, List.replicate_succ]
theorem rep_add (l : List V) (n m : Nat) : rep l (n + m) = rep l n ++ rep l m := by
  simp only [rep, ← List.replicate_append_replicate, List.flatten_append]
theorem rep_one (v : V) (n : Nat) : rep [v] n = List.replicate n v := by
  induction n with
  | zero => simp [rep]
  | succ n ih => rw [rep_next, ih, List.replicate_succ]; rfl
theorem field_start (n h : Nat) : rep zero3 (n + h) = fieldCells n h 0 := by simp [fieldCells, rep_add]
theorem ring_len (n i : Nat) : ((List.range i).flatMap (ringCells n)).length = 3 * i := by
  induction i with
  | zero => simp
  | succ i ih => simp [List.range_succ, List.flatMap_append, ih, ringCells]; omega
theorem field_len {n h i : Nat} (hi : i ≤ h) : (fieldCells n h i).length = 3 * (n + h) := by
  have h1 := ring_len n i
  have h2 := rep_len zero3 n
  have h3 := rep_len zero3 (h - i)
  have h4 : zero3.length = 3 := rfl
  simp only [fieldCells, List.length_append, h1, h2, h3, h4]; omega
theorem field_step {n h i : Nat} (hi : i < h) : splice (fieldCells n h i) ((n + i) * 3) (ringCells n i) = fieldCells n h (i + 1) := by
  unfold splice fieldCells
  have h1 : h - i = (h - (i + 1)) + 1 := by omega
  have l1 : (rep zero3 n).length = 3 * n := by have := rep_len zero3 n; have h4 : zero3.length = 3 := rfl; rw [h4] at this; omega
  have l2 := ring_len n i
  have l3 : zero3.length = 3 := rfl
  have e1 : (n + i) * 3 = (rep zero3 n ++ (List.range i).flatMap (ringCells n)).length := by simp only [List.length_append, l1, l2]; omega
  have e2 : (n + i) * 3 + (ringCells n i).length = (rep zero3 n ++ (List.range i).flatMap (ringCells n) ++ zero3).length := by simp only [List.length_append, l1, l2, ringCells, l3, List.length_cons, List.length_nil]; omega
  rw [h1, rep_next, ← List.append_assoc, ← List.append_assoc, List.append_assoc _ zero3, e2, ← List.append_assoc _ zero3, List.drop_left, e1, List.append_assoc _ zero3, List.take_left]
  simp [List.range_succ, List.flatMap_append]

theorem links_store (st : St) {n h i : Nat} (hi : i < h) : storeN (linksState st n h i) st.next ((n + i) * 3) (ringCells n i) = some (linksState st n h (i + 1)) := by
  have hm : (linksState st n h i).mem st.next = some (.cells (fieldCells n h i) none) := by simp [linksState, new_mem]; omega
  unfold storeN
  rw [hm]
  simp only [field_len (Nat.le_of_lt hi), ringCells, List.length_cons, List.length_nil]
  rw [if_pos (by omega)]
  have := field_step (n := n) hi
  simp only [ringCells] at this
  rw [this]
  congr 1
  simp only [linksState, St.set, St.new, St.mk.injEq, and_true]
  funext j
  by_cases h1 : j = st.next
  · subst h1; simp; omega
  · simp [h1]

theorem new_gives (hr : XP 762 = some f762) (hf : XP 628 = some f628) {st : St} {h n : Nat} (h1 : 1 ≤ n) (h2 : n ≤ 4194304) (h3 : 1 ≤ h) (h4 : h ≤ 4096) :
    Gives XP 628 [.int .i64 n, .int .i64 h] st (fun v s => v = .tuple [.ptr (some (st.next + 2, 0)), .int .i64 0] ∧ s = linksState st n h h) := by
  refine gives_wp hf ?_
  have hw : Go.IntKind.wrap .i64 (↑n + ↑h) = ((n + h : Nat) : Int) := by
    rw [w_i64 (by omega) (by omega)]; omega
  have a1 : ¬ ((n : Int) < 1) := by omega
  have a2 : ¬ ((4194304 : Int) < n) := by omega
  have a3 : ¬ ((h : Int) < 1) := by omega
  have a4 : ¬ ((4096 : Int) < h) := by omega
  have b1 : 0 ≤ (n : Int) + h ∧ ((n : Int) + h) * 12 ≤ (roof : Int) ∧ (n : Int) + h ≤ (roof : Int) := by simp only [roof]; omega
  have b2 : (h : Int) * 8 ≤ (roof : Int) ∧ (h : Int) ≤ (roof : Int) := by simp only [roof]; omega
  have b3 : ((n : Int) + h).toNat = n + h := by omega
  have hz : rep [V.int .u32 0, V.int .u32 0, V.int .u32 0] (n + h) = fieldCells n h 0 := field_start n h
  simp [f628, s, step1, enterEnv, pack, bin, binInt, convV, hw, a1, a2, a3, a4, b1, b2, b3, fillAt, V.cells, splice, rep_one, hz]
  refine wp_loop (fun m e' s' => ∃ i, m = h - i ∧ i ≤ h ∧ e' 33 = .int .i64 i ∧ e' 32 = .int .i64 h ∧ e' 6 = .ptr (some (st.next + 2, 0)) ∧ s' = linksState st n h i) h ?_ ?_
  · exact ⟨0, rfl, by omega, by simp, by simp, by simp, rfl⟩
  · rintro m e' s' ⟨i, rfl, hi, e1, e2, e3, rfl⟩
    by_cases hih : i < h
    · have c1 : (i : Int) < h := by omega
      have hL : cellsAt (linksState st n h i) (st.next + 2) = some (linksCells st.next n h) := by simp [cellsAt, linksState, new_mem]
      simp [s, Own.e, step1, bin, binInt, e1, e2, e3, c1]
      refine wps_call (ring_gives hr (L := st.next + 2) (h := i) (n := n) hL (by omega)) ?_
      rintro v s ⟨rfl, rfl⟩
      have hl : loadN (linksState st n h i) (st.next + 2) 0 1 = some [.slice (some (st.next, 0)) (n + h) (.is (n + h))] := by simp [loadC hL, linksCells]
      have hw1 : Go.IntKind.wrap .u32 (↑i + 1) = (i : Int) + 1 := by rw [w_u32 (by omega) (by omega)]
      have hw2 : Go.IntKind.wrap .i64 (↑i + 1) = (i : Int) + 1 := by rw [w_i64 (by omega) (by omega)]
      have hx : asIdx (.int .u32 ((n : Int) + i)) (n + h) = some (n + i) := by
        have : 0 ≤ (n : Int) + i ∧ (n : Int) + i < n + h := by omega
        simp [asIdx, this]; omega
      have hs := links_store st (n := n) hih
      simp only [ringCells, Int.natCast_add, Int.cast_ofNat_Int, Int.natCast_one] at hs
      simp [Own.s, Own.e, step1, bin, binInt, convV, e1, e2, e3, c1, hl, hw1, hw2, pack, fillAt, V.cells, splice, hx]
      rw [hs]
      simp [Own.s, Own.e, step1, bin, binInt, e1, e2, e3, hw2]
      exact ⟨h - (i + 1), by omega, i + 1, rfl, by omega, by omega, rfl⟩
    · have c1 : ¬ (i : Int) < h := by omega
      obtain rfl : i = h := by omega
      simp [Own.s, Own.e, step1, bin, binInt, e1, e2, e3, c1, resV, resAll, resOne]
end Cub

namespace Cub
open Own
variable {XP : Nat → Option Fun}

theorem nanS_gives (hf : XP 501 = some f501) {st : St} (a : List UInt8) : Gives XP 501 [.str a] st (fun v s => v = .bool false ∧ s = st) := by
  refine gives_wp hf ?_
  simp [f501, s, step1, enterEnv, bin, binStr, resV, resAll, resOne]
theorem nanU_gives (hf : XP 494 = some f494) {st : St} (a : Int) : Gives XP 494 [.int .u64 a] st (fun v s => v = .bool false ∧ s = st) := by
  refine gives_wp hf ?_
  simp [f494, s, step1, enterEnv, bin, binInt, resV, resAll, resOne]

def cmpS (a b : List UInt8) : Int := bif Go.Op.bytesLess a b then -1 else bif a == b then 0 else 1
def cmpI (a b : Int) : Int := bif ltE a b then -1 else bif ltE b a then 1 else 0

theorem cmpS_gives (hn : XP 501 = some f501) (hf : XP 323 = some f323) {st : St} (a b : List UInt8) : Gives XP 323 [.str a, .str b] st (fun v s => v = .int .i64 (cmpS a b) ∧ s = st) := by
  refine gives_wp hf ?_
  simp [f323, s, step1, enterEnv]
  refine wps_call (nanS_gives hn a) ?_
  rintro v s ⟨rfl, rfl⟩
  simp [Own.s, step1, enterEnv]
  refine wps_call (nanS_gives hn b) ?_
  rintro v s ⟨rfl, rfl⟩
  simp [Own.s, step1, enterEnv, bin, binStr]
  cases h1 : Go.Op.bytesLess a b
  · simp [Own.s, step1, enterEnv, bin, binStr, h1]
    by_cases h2 : a = b
    · simp [Own.s, step1, h2, resV, resAll, resOne, cmpS]
      subst h2; rw [h1]; rfl
    · have h3 : (a == b) = false := by simpa using h2
      simp [Own.s, step1, h3, resV, resAll, resOne, cmpS, h1]
  · simp [Own.s, step1, resV, resAll, resOne, cmpS, h1]

theorem cmpU_gives (hn : XP 494 = some f494) (hf : XP 313 = some f313) {st : St} (a b : Int) : Gives XP 313 [.int .u64 a, .int .u64 b] st (fun v s => v = .int .i64 (cmpI a b) ∧ s = st) := by
  refine gives_wp hf ?_
  simp [f313, s, step1, enterEnv]
  refine wps_call (nanU_gives hn a) ?_
  rintro v s ⟨rfl, rfl⟩
  simp [Own.s, step1, enterEnv]
  refine wps_call (nanU_gives hn b) ?_
  rintro v s ⟨rfl, rfl⟩
  simp [Own.s, step1, enterEnv, bin, binInt]
  by_cases h1 : a < b
  · simp [Own.s, step1, resV, resAll, resOne, cmpI, ltE_eq, h1]
  · by_cases h2 : b < a
    · simp [Own.s, step1, enterEnv, bin, binInt, resV, resAll, resOne, cmpI, ltE_eq, h1, h2]
    · simp [Own.s, step1, enterEnv, bin, binInt, resV, resAll, resOne, cmpI, ltE_eq, h1, h2]

def or2 (a b : Int) : Int := bif eqE a 0 then b else a
theorem or_gives (hf : XP 322 = some f322) {st : St} {b : Nat} (x y : Int) (hb : cellsAt st b = some [.int .i64 x, .int .i64 y]) :
    Gives XP 322 [.slice (some (b, 0)) 2 (.is 2)] st (fun v s => v = .int .i64 (or2 x y) ∧ s = st) := by
  refine gives_wp hf ?_
  have l0 : loadN st b 0 1 = some [.int .i64 x] := by simp [loadC hb]
  have l1 : loadN st b 1 1 = some [.int .i64 y] := by simp [loadC hb]
  have w1 : Go.IntKind.wrap .i64 1 = 1 := by decide
  have w2 : Go.IntKind.wrap .i64 2 = 2 := by decide
  simp [f322, s, step1, enterEnv, bin, binInt]
  refine wp_round ?_
  simp [s, step1, enterEnv, bin, binInt, asIdx, l0, pack]
  by_cases h1 : x = 0
  · subst h1
    simp [s, step1, enterEnv, bin, binInt, w1]
    refine wp_round ?_
    simp [s, step1, enterEnv, bin, binInt, asIdx, l1, pack]
    by_cases h2 : y = 0
    · subst h2
      simp [s, step1, enterEnv, bin, binInt, w2]
      refine wp_round ?_
      simp [s, step1, enterEnv, bin, binInt, w2, resV, resAll, resOne, or2, eqE_eq]
    · have h3 : (y != 0) = true := by simpa using h2
      simp [s, step1, enterEnv, bin, binInt, h3, resV, resAll, resOne, or2, eqE_eq, h2]
  · have h3 : (x != 0) = true := by simpa using h1
    have h4 : (x == 0) = false := by simpa using h1
    simp [s, step1, enterEnv, bin, binInt, h3, resV, resAll, resOne, or2, eqE_eq, h4]

/-- What the order of a ring's points is. -/
def ptCmp (a1 b1 : Int) (a2 b2 : List UInt8) : Int := or2 (cmpI a1 b1) (cmpS a2 b2)
def ptState (st : St) (a1 b1 : Int) (a2 b2 : List UInt8) : St :=
  ((st.new (.cells [.int .u64 a1, .str a2] none)).new (.cells [.int .u64 b1, .str b2] none)).new (.cells [.int .i64 (cmpI a1 b1), .int .i64 (cmpS a2 b2)] (some 0))
theorem pt_gives (h501 : XP 501 = some f501) (h494 : XP 494 = some f494) (h323 : XP 323 = some f323) (h313 : XP 313 = some f313) (h322 : XP 322 = some f322) (hf : XP 321 = some f321) {st : St} (a1 b1 : Int) (a2 b2 : List UInt8) :
    Gives XP 321 [.agg [.int .u64 a1, .str a2], .agg [.int .u64 b1, .str b2]] st (fun v s => v = .int .i64 (ptCmp a1 b1 a2 b2) ∧ s = ptState st a1 b1 a2 b2) := by
  refine gives_wp hf ?_
  have l1 : ∀ (x y : Obj), ((st.new x).new y).mem st.next = some x := fun x y => by simp [new_mem]
  have l2 : ∀ (x y : Obj), ((st.new x).new y).mem (st.next + 1) = some y := fun x y => by simp [new_mem]
  simp [f321, Own.s, step1, enterEnv, V.cells, loadN, l1, l2, pack]
  refine wps_callP (cmpU_gives h494 h313 a1 b1) ?_
  rintro v rfl
  simp
  refine wps_callP (cmpS_gives h501 h323 a2 b2) ?_
  rintro v rfl
  simp [Own.s, step1, fillAt, V.cells, splice, rep]
  refine wps_callP (or_gives h322 (cmpI a1 b1) (cmpS a2 b2) (by simp [cellsAt, new_mem])) ?_
  rintro v rfl
  simp [Own.s, step1, resV, resAll, resOne, ptCmp, ptState]

end Cub

namespace Cub
open Own

theorem x628 : tab.get 628 = some f628 := rfl
theorem x762 : tab.get 762 = some f762 := rfl
theorem x321 : tab.get 321 = some f321 := rfl
theorem x501 : tab.get 501 = some f501 := rfl
theorem x494 : tab.get 494 = some f494 := rfl
theorem x323 : tab.get 323 = some f323 := rfl
theorem x313 : tab.get 313 = some f313 := rfl
theorem x322 : tab.get 322 = some f322 := rfl

/-- What is known of a call, as the machine takes it. -/
def Knows (XP : Nat → Option Fun) (f : Nat) (g : List V → MSt → Option (V × MSt)) : Prop := ∀ args st v st', g args st = some (v, st') → Ex XP (.call f args) st.up (fun r s => r = .vals v ∧ s = st'.up)
theorem Gives.knows {XP : Nat → Option Fun} {f : Nat} {args : List V} {st : St} {v : V} {s : St} (h : Gives XP f args st (fun v' s' => v' = v ∧ s' = s)) : Ex XP (.call f args) st (fun r s' => r = .vals v ∧ s' = s) :=
  h.mono fun r s' ⟨v', e1, e2, e3⟩ => ⟨by rw [e1, e2], e3⟩

noncomputable def inR (a n b : Nat) : Bool := iteB (Nat.ble a n) (Nat.ble n b) false
noncomputable def linksSum (args : List V) (st : MSt) : Option (V × MSt) := match args with
  | [.int .i64 (.ofNat n), .int .i64 (.ofNat h)] => bif inR 1 n 4194304 && inR 1 h 4096 then
      some (.tuple [.ptr (some (st.next + 2, 0)), .int .i64 0], ((st.newO (.cells (fieldCells n h h) none)).newO (.cells (List.replicate h (.int .i64 0)) none)).newO (.cells (linksCells st.next n h) none))
    else none
  | _ => none
theorem inR_ok {a n b : Nat} (h : inR a n b = true) : a ≤ n ∧ n ≤ b := by
  unfold inR at h
  rw [iteB_eq] at h
  cases h1 : Nat.ble a n with
  | false => rw [h1] at h; cases h
  | true => rw [h1] at h; exact ⟨Nat.le_of_ble_eq_true h1, Nat.le_of_ble_eq_true h⟩
theorem linksSum_ok {XP : Nat → Option Fun} (hr : XP 762 = some f762) (hf : XP 628 = some f628) : Knows XP 628 linksSum := by
  intro args st v st' h
  unfold linksSum at h
  split at h
  · rename_i n h0
    cases hb : inR 1 n 4194304 && inR 1 h0 4096 with
    | false => rw [hb] at h; cases h
    | true =>
      rw [hb] at h
      simp only [cond_true, Option.some.injEq, Prod.mk.injEq] at h
      obtain ⟨rfl, rfl⟩ := h
      simp only [Bool.and_eq_true] at hb
      have h1 := inR_ok hb.1
      have h2 := inR_ok hb.2
      have := (new_gives hr hf (st := st.up) h1.1 h1.2 h2.1 h2.2).knows
      simp only [MSt.newO_up]
      exact this
  · cases h

noncomputable def ptSum (args : List V) (st : MSt) : Option (V × MSt) := match args with
  | [.agg [.int .u64 a1, .str a2], .agg [.int .u64 b1, .str b2]] =>
    some (.int .i64 (ptCmp a1 b1 a2 b2), ((st.newO (.cells [.int .u64 a1, .str a2] none)).newO (.cells [.int .u64 b1, .str b2] none)).newO (.cells [.int .i64 (cmpI a1 b1), .int .i64 (cmpS a2 b2)] (some 0)))
  | _ => none
theorem ptSum_ok {XP : Nat → Option Fun} (h501 : XP 501 = some f501) (h494 : XP 494 = some f494) (h323 : XP 323 = some f323) (h313 : XP 313 = some f313) (h322 : XP 322 = some f322) (hf : XP 321 = some f321) : Knows XP 321 ptSum := by
  intro args st v st' h
  unfold ptSum at h
  split at h
  · rename_i a1 a2 b1 b2
    simp only [Option.some.injEq, Prod.mk.injEq] at h
    obtain ⟨rfl, rfl⟩ := h
    have := (pt_gives h501 h494 h323 h313 h322 hf (st := st.up) a1 b1 a2 b2).knows
    simp only [MSt.newO_up]
    exact this
  · cases h

/-- Two tables. -/
noncomputable def sm1 : Sums := fun f => iteB (Nat.beq f 628) linksSum (iteB (Nat.beq f 321) ptSum (fun _ _ => none))
theorem sum_iteB {XP : Nat → Option Fun} {n : Nat} {g : List V → MSt → Option (V × MSt)} {f : Nat} {k : List V → MSt → Option (V × MSt)} (hg : Knows XP n g) (hk : Knows XP f k) : Knows XP f (iteB (Nat.beq f n) g k) := by
  rw [iteB_eq, beq_iff]
  by_cases h : f = n
  · subst h; simpa using hg
  · simpa [h] using hk
theorem sum_none {XP : Nat → Option Fun} {f : Nat} : Knows XP f (fun _ _ => none) := fun _ _ _ _ h => by cases h
theorem sm1_ok : SumOk tab.get sm1 := fun _ => sum_iteB (linksSum_ok x762 x628) (sum_iteB (ptSum_ok x501 x494 x323 x313 x322 x321) sum_none)

/-- The variables, as the program's text lays them. -/
def tab32 : List V := [0, 1, 28, 2, 29, 14, 24, 3, 30, 22, 20, 15, 25, 17, 4, 8, 31, 27, 13, 23, 21, 19, 16, 7, 26, 12, 18, 6, 11, 5, 10, 9].map fun n : Nat => V.int .u8 n
def tab64 : List V := [0, 1, 56, 2, 57, 49, 28, 3, 61, 58, 42, 50, 38, 29, 17, 4, 62, 47, 59, 36, 45, 43, 51, 22, 53, 39, 33, 30, 24, 18, 12, 5, 63, 55, 48, 27, 60, 41, 37, 16, 46, 35, 44, 21, 52, 32, 23, 11, 54, 26, 40, 15, 34, 20, 31, 10, 25, 14, 19, 9, 13, 8, 7, 6].map fun n : Nat => V.int .u8 n
def pow10 : List V := (List.range 20).map fun n : Nat => V.int .u64 ((10 ^ n : Nat) : Int)
def ofL (l : List V) : Nat → Option V := fun i => l[i]?
noncomputable def g0 : MSt := ⟨((T.leaf.put 8 (some (.ro (ofL pow10)))).put 11 (some (.ro (ofL tab32)))).put 12 (some (.ro (ofL tab64))), 64⟩
end Cub
