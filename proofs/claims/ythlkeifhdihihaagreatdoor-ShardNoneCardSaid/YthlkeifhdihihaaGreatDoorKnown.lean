/- The examples of the chapter, run by the kernel. -/
import Derived.Test.YthlkeifhdihihaaGreatDoorOne
set_option linter.unusedVariables false
set_option linter.unusedSimpArgs false
namespace Cub
open Own
set_option maxRecDepth 1000000

/-- The variables are there. -/
def HasG (st : St) : Prop := st.mem 8 = some (.ro (ofL pow10)) ∧ st.mem 11 = some (.ro (ofL tab32)) ∧ st.mem 12 = some (.ro (ofL tab64))
theorem ro_nats {ρ : Nat → Nat} {st : St} {b : Nat} {k : Go.IntKind} {f : Nat → Int} {l : List Nat} (h : st.mem b = some (.ro (ofL (l.map fun n => V.int k (f n))))) :
    isCells (st.mem b) ∧ ∃ c, Obj.ro (ofL (l.map fun n => V.int k (f n))) = .ro c ∧ ∀ j v, c j = some v → v.flat = true ∧ loadN st b j 1 = some [ren ρ v] := by
  refine ⟨by rw [h]; trivial, _, rfl, fun j v hj => ?_⟩
  have hv : ∃ m, v = V.int k m := by
    simp only [ofL, List.getElem?_map] at hj
    cases hl : l[j]? with
    | none => rw [hl] at hj; cases hj
    | some n => rw [hl] at hj; cases hj; exact ⟨_, rfl⟩
  obtain ⟨m, rfl⟩ := hv
  refine ⟨rfl, ?_⟩
  unfold loadN
  rw [h]
  simp only [rdN, hj, ren]
theorem ro32 {ρ : Nat → Nat} {st : St} {b : Nat} (h : st.mem b = some (.ro (ofL tab32))) : isCells (st.mem b) ∧ ∃ c, Obj.ro (ofL tab32) = .ro c ∧ ∀ j v, c j = some v → v.flat = true ∧ loadN st b j 1 = some [ren ρ v] := ro_nats (f := fun n => n) h
theorem ro64 {ρ : Nat → Nat} {st : St} {b : Nat} (h : st.mem b = some (.ro (ofL tab64))) : isCells (st.mem b) ∧ ∃ c, Obj.ro (ofL tab64) = .ro c ∧ ∀ j v, c j = some v → v.flat = true ∧ loadN st b j 1 = some [ren ρ v] := ro_nats (f := fun n => n) h
theorem ro10 {ρ : Nat → Nat} {st : St} {b : Nat} (h : st.mem b = some (.ro (ofL pow10))) : isCells (st.mem b) ∧ ∃ c, Obj.ro (ofL pow10) = .ro c ∧ ∀ j v, c j = some v → v.flat = true ∧ loadN st b j 1 = some [ren ρ v] := ro_nats (f := fun n => ((10 ^ n : Nat) : Int)) h

theorem g0_mem {i : Nat} {o : Obj} (h : g0.up.mem i = some o) : (i = 12 ∧ o = .ro (ofL tab64)) ∨ (i = 11 ∧ o = .ro (ofL tab32)) ∨ (i = 8 ∧ o = .ro (ofL pow10)) := by
  have h' : T.get (((T.leaf.put 8 (some (.ro (ofL pow10)))).put 11 (some (.ro (ofL tab32)))).put 12 (some (.ro (ofL tab64)))) i = some o := h
  simp only [T.get_put, T.get_leaf] at h'
  by_cases h1 : i = 12
  · rw [if_pos h1] at h'; cases h'; exact .inl ⟨h1, rfl⟩
  · rw [if_neg h1] at h'
    by_cases h2 : i = 11
    · rw [if_pos h2] at h'; cases h'; exact .inr (.inl ⟨h2, rfl⟩)
    · rw [if_neg h2] at h'
      by_cases h3 : i = 8
      · rw [if_pos h3] at h'; cases h'; exact .inr (.inr ⟨h3, rfl⟩)
      · rw [if_neg h3] at h'; cases h'

/-- A call that is given no address and reads the variables alone. -/
theorem pure_g0 {XP : Nat → Option Fun} {f : Nat} {args : List V} {st : St} {v : V} {p : V → Bool} (h0 : Ex XP (.call f args) g0.up (fun r _ => ∃ v, r = .vals v ∧ p v = true)) (ha : ∀ ρ, args.map (ren ρ) = args)
    (hp : ∀ u, p u = true → u = v) (hv : noAddr v = true) (hg : HasG st) : Ex XP (.call f args) st (fun r s => r = .vals v ∧ s = st) := by
  have hb : ∀ i, i < 64 → (fun i => if i < 64 then i else i + st.next) i = i := fun i hi => by simp [hi]
  have := Ex.pure (XP := XP) (st := st) (Q := fun r s => r = .vals v ∧ s = st) (fun i => if i < 64 then i else i + st.next) h0 hb (Nat.le_refl 64) (fun i hi => by
      have hi' : 64 ≤ i := hi
      show st.next ≤ if i < 64 then i else i + st.next
      rw [if_neg (by omega)]; omega) (fun i j h1 h2 h3 => ?_) (fun i o h => ?_) (fun r s ⟨u, e1, e2⟩ => ⟨u, e1, by rw [hp u e2]; exact hv, by rw [hp u e2], rfl⟩)
  · rw [ha] at this; exact this
  · have q : ∀ i, g0.up.mem i ≠ none → i < 64 := by
      intro i hi
      cases ho : g0.up.mem i with
      | none => exact absurd ho hi
      | some o => rcases g0_mem ho with h | h | h <;> omega
    have a1 := q i h1
    have a2 := q j h2
    have h4 : (if i < 64 then i else i + st.next) = (if j < 64 then j else j + st.next) := h3
    rw [if_pos a1, if_pos a2] at h4
    exact h4
  · rcases g0_mem h with ⟨rfl, rfl⟩ | ⟨rfl, rfl⟩ | ⟨rfl, rfl⟩
    · exact ⟨by decide, ro64 hg.2.2⟩
    · exact ⟨by decide, ro32 hg.2.1⟩
    · exact ⟨by decide, ro10 hg.1⟩

def ownArgs : List V := [.int .i64 64, .int .u64 77, .str [97, 110, 121]]
theorem gOwn_mem {i : Nat} {o : Obj} (h : gOwn.up.mem i = some o) : i = 64 ∧ o = .ro (ofL [one]) := by
  have h' : T.get (T.leaf.put 64 (some (.ro (ofL [one])))) i = some o := h
  rw [T.get_put, T.get_leaf] at h'
  by_cases h1 : i = 64
  · rw [if_pos h1] at h'; cases h'; exact ⟨h1, rfl⟩
  · rw [if_neg h1] at h'; cases h'

theorem isOne_ok {v : V} (h : isOne v = true) : v = .tuple [one, .int .i64 0] := by
  unfold isOne at h
  split at h
  · rfl
  · cases h

theorem owner_one {st : St} {b : Nat} (hb : cellsAt st b = some [one]) :
    Ex tab.get (.call 63 (.slice (some (b, 0)) 1 (.is 1) :: ownArgs)) st (fun r s => r = .vals (.tuple [one, .int .i64 0]) ∧ s = st) := by
  have h0 := ex_of_run sm1_ok owner_run
  let ρ : Nat → Nat := fun i => if i < 64 then i else if i = 64 then b else i + st.next
  have hr : ∀ i, i < 64 → ρ i = i := fun i hi => by simp [ρ, hi]
  have hr64 : ρ 64 = b := by simp [ρ]
  have q : ∀ i, gOwn.up.mem i ≠ none → i = 64 := by
    intro i hi
    cases ho : gOwn.up.mem i with
    | none => exact absurd ho hi
    | some o => exact (gOwn_mem ho).1
  have := Ex.pure (XP := tab.get) (st := st) (Q := fun r s => r = .vals (.tuple [one, .int .i64 0]) ∧ s = st) ρ h0 hr (by decide) (fun i hi => by
      have hi' : 65 ≤ i := hi
      simp only [ρ]; rw [if_neg (by omega), if_neg (by omega)]; omega) (fun i j h1 h2 h3 => (q i h1).trans (q j h2).symm) (fun i o h => ?_) (fun r s ⟨u, e1, e2⟩ => ⟨u, e1, by rw [isOne_ok e2]; rfl, by rw [isOne_ok e2], rfl⟩)
  · have ha : (V.slice (some (64, 0)) 1 (.is 1) :: ownArgs).map (ren ρ) = .slice (some (b, 0)) 1 (.is 1) :: ownArgs := by simp [ownArgs, ren, hr64]
    have h' : Ex tab.get (.call 63 ((V.slice (some (64, 0)) 1 (.is 1) :: ownArgs).map (ren ρ))) st (fun r s => r = .vals (.tuple [one, .int .i64 0]) ∧ s = st) := this
    rw [ha] at h'; exact h'
  · obtain ⟨rfl, rfl⟩ := gOwn_mem h
    refine ⟨by decide, ?_⟩
    rw [hr64]
    obtain ⟨o, ho⟩ : ∃ o, st.mem b = some (.cells [one] o) := by
      unfold cellsAt at hb
      split at hb
      · rename_i c o hm; cases hb; exact ⟨o, hm⟩
      · cases hb
    refine ⟨by rw [ho]; trivial, _, rfl, fun j v hj => ?_⟩
    cases j with
    | zero => cases hj; exact ⟨rfl, by rw [loadC hb]; rfl⟩
    | succ j => simp [ofL] at hj

noncomputable def ownSum (args : List V) (st : MSt) : Option (V × MSt) := match args with
  | .slice (some (b, 0)) 1 (.is 1) :: rest => match st.mem.get b with
    | some (.cells c _) => bif vSames rest ownArgs && vSames c [one] then some (.tuple [one, .int .i64 0], st) else none
    | _ => none
  | _ => none
theorem ownSum_ok : Knows tab.get 63 ownSum := by
  intro args st v st' h
  unfold ownSum at h
  split at h
  · rename_i b rest
    split at h
    · rename_i c o hc
      generalize hb : (vSames rest ownArgs && vSames c [one]) = t at h
      cases t with
      | false => cases h
      | true =>
        simp only [cond_true, Option.some.injEq, Prod.mk.injEq] at h
        obtain ⟨rfl, rfl⟩ := h
        simp only [Bool.and_eq_true] at hb
        obtain ⟨h2, h3⟩ := hb
        rw [vSames_ok _ _ h2]
        refine owner_one ?_
        rw [← vSames_ok _ _ h3]
        unfold cellsAt
        show (match st.mem.get b with | some (.cells c _) => some c | _ => none) = _
        rw [hc]
    · cases h
  · cases h

noncomputable def sm2 : Sums := fun f => iteB (Nat.beq f 628) linksSum (iteB (Nat.beq f 321) ptSum (iteB (Nat.beq f 63) ownSum (fun _ _ => none)))
theorem sm2_ok : SumOk tab.get sm2 := fun _ => sum_iteB (linksSum_ok x762 x628) (sum_iteB (ptSum_ok x501 x494 x323 x313 x322 x321) (sum_iteB ownSum_ok sum_none))
def isTrue (v : V) : Bool := match v with
  | .bool b => b
  | _ => false
theorem known_run : endsIn isTrue (runL tab sm2 [15, 13, 12, 11, 8, 7, 4, 2, 1] ⟨.call 59 [], [], g0⟩) = true := by decide +kernel
theorem known_gives {st : St} (hg : HasG st) : Ex tab.get (.call 59 []) st (fun r s => r = .vals (.bool true) ∧ s = st) :=
  pure_g0 (p := isTrue) (ex_of_run sm2_ok known_run) (fun _ => rfl) (fun u hu => by cases u <;> simp [isTrue] at hu; rw [hu]) rfl hg
end Cub
