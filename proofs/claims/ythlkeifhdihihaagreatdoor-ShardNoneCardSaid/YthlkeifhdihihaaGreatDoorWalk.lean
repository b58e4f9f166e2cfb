/-
  The walk: what the call of ShardNone comes to, from any start that the row allows.
-/
import Derived.Test.YthlkeifhdihihaaGreatDoorNone
import Derived.Test.YthlkeifhdihihaaGreatDoorSeatAll
import Derived.ProofKit
import Derived.LaidMore
import Derived.LaidLaws
import Derived.OpenShut
import Derived.Stop.Joined
import Derived.SevenTiedAt
import Derived.Lib.SmallJoins
set_option linter.unusedVariables false
set_option linter.unusedSimpArgs false
set_option maxRecDepth 100000
namespace Go.Proofs.YthlkeifhdihihaaGreatDoor
open Go Go.ChangeShapes Go.WideShapes Go.ChangeAt Go.WideMaps Go.WideElems Go.RowKit
open Cub (V St)

theorem own : ownKnob Tryz.prog.godebug = none := by kernel_rfl
theorem laidOut : laidOutB Tryz.prog = true := by kernel_rfl
theorem mixed : Tryz.prog.follows .mixedOrders = true := by kernel_rfl
theorem seat : Cub.SeatOk Cub.Sh.S Cub.Own.tab.get Cub.anyF := Cub.seatOk Cub.Sh.every mixed (by decide) (by decide)

theorem g32 : Tryz.prog.globalNamed "math/bits.deBruijn32tab" = some 1 := by kernel_rfl
theorem g64 : Tryz.prog.globalNamed "math/bits.deBruijn64tab" = some 2 := by kernel_rfl
theorem g10 : Tryz.prog.globalNamed "internal/strconv.uint64pow10" = some 0 := by kernel_rfl
theorem t32 : (Tryz.prog.globals[1]?).map (·.type) = some 468 := by kernel_rfl
theorem t64 : (Tryz.prog.globals[2]?).map (·.type) = some 469 := by kernel_rfl
theorem t10 : (Tryz.prog.globals[0]?).map (·.type) = some 425 := by kernel_rfl
theorem c5 : Tryz.prog.cellsOf 5 = 1 := by kernel_rfl
theorem c23 : Tryz.prog.cellsOf 23 = 1 := by kernel_rfl

/-- What is laid of a variable that is a row of numbers. -/
def Laid (W : World) (g : Nat) (l : List V) : Prop := ∃ arr ty fz, W.heap[g]? = some (.cells arr ty fz) ∧ ∀ (j : Nat) v, l[j]? = some v → v.flat = true ∧ ∃ u, arr[j]? = some u ∧ ∀ σ, Cub.VR Cub.Sh.S σ v u
theorem laid_of {W : World} {name : String} {g : Nat} {cs : Array Value} {k : IntKind} {ns : List Int} (hg : Tryz.prog.globalNamed name = some g) (hv : W.var? Tryz.prog name = some cs)
    (h : ∀ (j : Nat) (i : Int), ns[j]? = some i → cs.toList[j]? = some (.int k i)) : Laid W g (ns.map fun i => .int k i) := by
  simp only [World.var?, hg, Option.bind_some] at hv
  split at hv
  · rename_i arr ty fz hh
    cases hv
    refine ⟨_, _, _, hh, fun j v hj => ?_⟩
    rw [List.getElem?_map] at hj
    cases hn : ns[j]? with
    | none => rw [hn] at hj; cases hj
    | some i =>
      rw [hn] at hj; cases hj
      refine ⟨rfl, _, by rw [← Array.getElem?_toList]; exact h j i hn, fun σ => by simp only [Cub.VR]⟩
  · cases hv

def n32 : List Int := [0, 1, 28, 2, 29, 14, 24, 3, 30, 22, 20, 15, 25, 17, 4, 8, 31, 27, 13, 23, 21, 19, 16, 7, 26, 12, 18, 6, 11, 5, 10, 9]
def n64 : List Int := [0, 1, 56, 2, 57, 49, 28, 3, 61, 58, 42, 50, 38, 29, 17, 4, 62, 47, 59, 36, 45, 43, 51, 22, 53, 39, 33, 30, 24, 18, 12, 5, 63, 55, 48, 27, 60, 41, 37, 16, 46, 35, 44, 21, 52, 32, 23, 11, 54, 26, 40, 15, 34, 20, 31, 10, 25, 14, 19, 9, 13, 8, 7, 6]
def n10 : List Int := [1, 10, 100, 1000, 10000, 100000, 1000000, 10000000, 100000000, 1000000000, 10000000000, 100000000000, 1000000000000, 10000000000000, 100000000000000, 1000000000000000, 10000000000000000, 100000000000000000, 1000000000000000000, 10000000000000000000]
theorem e32 : (n32.map fun i => V.int .u8 i) = Cub.tab32 := by kernel_rfl
theorem e64 : (n64.map fun i => V.int .u8 i) = Cub.tab64 := by kernel_rfl
theorem e10 : (n10.map fun i => V.int .u64 i) = Cub.pow10 := by kernel_rfl

theorem of_laid {W : World} (h : laidMetH Tryz.prog Rows.shardNoneRow.laid W) : Laid W 1 Cub.tab32 ∧ Laid W 2 Cub.tab64 ∧ Laid W 0 Cub.pow10 := by
  rw [MakeChecks.laidMetH_plain _ _ _ (by kernel_rfl)] at h
  obtain ⟨ps, ⟨ga, ta, csa, fa, pa, qa, hga, hta, hva, hda, ⟨gb, tb, csb, fb, pb, qb, hgb, htb, hvb, hdb, ⟨gc, tc, csc, fc, pc, qc, hgc, htc, hvc, hdc, _, _⟩, _⟩, _⟩, _, _⟩ := h
  obtain rfl := Option.some.inj (g32.symm.trans hga)
  obtain rfl := Option.some.inj (g64.symm.trans hgb)
  obtain rfl := Option.some.inj (g10.symm.trans hgc)
  obtain rfl := Option.some.inj (t32.symm.trans hta)
  obtain rfl := Option.some.inj (t64.symm.trans htb)
  obtain rfl := Option.some.inj (t10.symm.trans htc)
  refine ⟨?_, ?_, ?_⟩
  · rw [← e32]; exact laid_of g32 hva (Cub.laid_ints Tryz.underlying468 Tryz.underlying5 c5 hda (by kernel_rfl) (by decide))
  · rw [← e64]; exact laid_of g64 hvb (Cub.laid_ints Tryz.underlying469 Tryz.underlying5 c5 hdb (by kernel_rfl) (by decide))
  · rw [← e10]; exact laid_of g10 hvc (Cub.laid_ints Tryz.underlying425 Tryz.underlying23 c23 hdc (by kernel_rfl) (by decide))

theorem array6 {α : Type} {cs : Array α} (h : cs.size = 6) : ∃ a b c d e f, cs = #[a, b, c, d, e, f] := by
  obtain ⟨l⟩ := cs
  match l, h with
  | [a, b, c, d, e, f], _ => exact ⟨a, b, c, d, e, f, rfl⟩

theorem c50 : Tryz.prog.cellsOf 50 = 6 := by kernel_rfl
theorem c3 : Tryz.prog.cellsOf 3 = 1 := by kernel_rfl
theorem c37 : Tryz.prog.cellsOf 37 = 1 := by kernel_rfl
theorem c9 : Tryz.prog.cellsOf 9 = 1 := by kernel_rfl
theorem c40 : Tryz.prog.cellsOf 40 = 1 := by kernel_rfl

/-- A slice that reads is one that own values tell. -/
theorem slice_abs {H : Type} {enc : TypeId × Value → H} {W : World} {held : Bool} {fuel : Nat} {u : Value} {x : DataW H × List MemPlace} (h0 : 0 < W.heap.size)
    (h : DataW.trod enc Tryz.prog W 0 (fun _ => true) held fuel 40 [u] = some x) : ∃ a m c, Cub.absC W.heap.size u = some (.slice a m c) := by
  rcases DataW.trod_slice Tryz.underlying40 h with ⟨h1, _⟩ | ⟨a, len, cap, elems, rest, n, _, h1, _, _, hle, _, hel, h2, h3, _⟩
  · simp only [List.cons.injEq, and_true] at h1
    subst h1
    exact ⟨none, 0, .is 0, rfl⟩
  · simp only [List.cons.injEq, and_true] at h1
    subst h1
    by_cases hc : cap = 0
    · subst hc
      obtain rfl : len = 0 := by omega
      exact ⟨some (64, 0), 0, .opn 0, by simp [Cub.absC, h0]⟩
    · have hadd : a.add 0 = a := by simp [Addr.add]
      have hcell : ∃ v, W.cells? 0 a 1 = some v := by
        by_cases hl : 0 < len
        · have := h2 0 hl
          rw [Nat.zero_mul, hadd, c5] at this
          cases hq : W.cells? 0 a 1 with
          | some v => exact ⟨v, rfl⟩
          | none =>
            rw [hq] at this
            have h5 : elems[0]? ≠ none := by
              rw [Ne, List.getElem?_eq_none_iff]; omega
            exact absurd this.symm h5
        · obtain rfl : len = 0 := by omega
          have h6 := h3 rfl
          have := h6.2 0 (by omega)
          rw [Nat.zero_add, Nat.zero_mul, hadd, c5] at this
          cases hq : W.cells? 0 a 1 with
          | some v => exact ⟨v, rfl⟩
          | none =>
            rw [hq] at this
            have h5 : rest[0]? ≠ none := by
              rw [Ne, List.getElem?_eq_none_iff]; omega
            exact absurd this.symm h5
      obtain ⟨v, hv⟩ := hcell
      have hb : a.block < W.heap.size ∧ a.spot = none := by
        simp only [World.cells?, Nat.zero_le, if_true, List.range_one, List.mapM_cons, List.mapM_nil, hadd] at hv
        cases hc1 : W.cell? a with
        | none => rw [hc1] at hv; cases hv
        | some y =>
          simp only [World.cell?] at hc1
          split at hc1
          · rename_i arr ty fz hh
            have := (Array.getElem?_eq_some_iff.1 hh).1
            refine ⟨this, ?_⟩
            cases hs : a.spot with
            | none => rfl
            | some z => rw [hs] at hc1; simp at hc1
          · cases hc1
      obtain ⟨ab, ao, asp⟩ := a
      obtain ⟨hb1, hb2⟩ := hb
      simp only at hb1 hb2
      subst hb2
      cases cap with
      | zero => exact absurd rfl hc
      | succ cap =>
        have e : Cub.absC W.heap.size (.slice (some ⟨ab, ao, none⟩) len (cap + 1)) = if ab < W.heap.size then some (.slice (some (64 + ab, ao)) len (.is (cap + 1))) else none := by cases len <;> rfl
        exact ⟨some (64 + ab, ao), len, .is (cap + 1), by rw [e, if_pos hb1]⟩

/-- An act that reads is an own value. -/
theorem act_open {H : Type} {enc : TypeId × Value → H} {W : World} {base : Nat} {held : Bool} {v : Value} {d : DataW H} {p : List MemPlace} (h0 : 0 < W.heap.size)
    (hv : Value.okWide Tryz.prog W .any base 50 v) (h : DataW.Trod enc Tryz.prog W 0 (fun _ => true) held 50 v d p) :
    ∃ w t l k n a m c, Cub.VR Cub.Sh.S (Cub.sgOf Cub.Sh.S W.heap.size) (.agg (Cub.actCells w t l k n a m c)) v := by
  obtain ⟨cs, rfl, hsz⟩ := okWide_struct Tryz.underlying50 hv
  obtain ⟨v0, v1, v2, v3, v4, v5, rfl⟩ := array6 (hsz.trans c50)
  obtain ⟨fuel, hf⟩ := h
  obtain ⟨xs, n, _, _, _, hlen, hel⟩ := DataW.trod_struct Tryz.underlying50 hf
  have hlen' : xs.length = 6 := hlen
  match xs, hlen' with
  | [y0, y1, y2, y3, y4, y5], _ =>
    have q0 := hel 0 _ rfl
    have q1 := hel 1 _ rfl
    have q2 := hel 2 _ rfl
    have q3 := hel 3 _ rfl
    have q4 := hel 4 _ rfl
    have q5 := hel 5 _ rfl
    simp only [c3, c37, c9, c40, Value.cells, List.drop_zero, List.drop_succ_cons, List.take_succ_cons, List.take_zero, List.getElem?_cons_zero, List.getElem?_cons_succ] at q0 q1 q2 q3 q4 q5
    obtain ⟨w, e0, _⟩ := DataW.trod_int Tryz.underlying3 q0
    obtain ⟨t, e1, _⟩ := DataW.trod_int Tryz.underlying37 q1
    obtain ⟨l, e2, _⟩ := DataW.trod_int Tryz.underlying37 q2
    obtain ⟨k, e3, _⟩ := DataW.trod_string Tryz.underlying9 q3
    obtain ⟨nm, e4, _⟩ := DataW.trod_string Tryz.underlying9 q4
    obtain ⟨a, m, c, e5⟩ := slice_abs h0 q5
    cases e0; cases e1; cases e2; cases e3; cases e4
    refine ⟨w, t, l, k.data.toList, nm.data.toList, a, m, c, ?_⟩
    simp only [Cub.VR]
    refine ⟨_, rfl, ?_, rfl⟩
    exact .cons (Cub.absC_rel (N := W.heap.size) (u := .int .i64 w) rfl) (.cons (Cub.absC_rel (N := W.heap.size) (u := .int .u64 t) rfl) (.cons (Cub.absC_rel (N := W.heap.size) (u := .int .u64 l) rfl)
      (.cons (Cub.absC_rel (N := W.heap.size) (u := .string k) rfl) (.cons (Cub.absC_rel (N := W.heap.size) (u := .string nm) rfl) (.cons (Cub.absC_rel e5) .nil)))))

/-- What the variables hold, by own numbers. -/
def G (i : Nat) : Option (List V) := if i = 8 then some Cub.pow10 else if i = 11 then some Cub.tab32 else if i = 12 then some Cub.tab64 else none
theorem gam {i g : Nat} (h : Cub.Sh.S.γ i = some g) : (i = 8 ∧ g = 0) ∨ (i = 11 ∧ g = 1) ∨ (i = 12 ∧ g = 2) := by
  have : (i, g) ∈ Cub.Sh.gams := Cub.lookup_mem h
  simpa [Cub.Sh.gams] using this

theorem rel_start {W : World} (hL : laidMetH Tryz.prog Rows.shardNoneRow.laid W) :
    Cub.Rel Cub.Sh.S Cub.anyF (Cub.sgOf Cub.Sh.S W.heap.size) (Cub.stOf Cub.Sh.S W G) W ∧ Cub.HasG (Cub.stOf Cub.Sh.S W G) ∧ 0 < W.heap.size := by
  obtain ⟨h1, h2, h0⟩ := of_laid hL
  have lt : ∀ {g l}, Laid W g l → g < W.heap.size := fun ⟨_, _, _, h, _⟩ => (Array.getElem?_eq_some_iff.1 h).1
  refine ⟨Cub.stOf_rel (fun i g h => ?_) (fun i j g hi hj => ?_) (fun i c g hc hg => ?_), ⟨?_, ?_, ?_⟩, Nat.lt_of_le_of_lt (Nat.zero_le _) (lt h0)⟩
  · rcases gam h with ⟨rfl, rfl⟩ | ⟨rfl, rfl⟩ | ⟨rfl, rfl⟩
    · exact ⟨by decide, lt h0⟩
    · exact ⟨by decide, lt h1⟩
    · exact ⟨by decide, lt h2⟩
  · rcases gam hi with ⟨rfl, rfl⟩ | ⟨rfl, rfl⟩ | ⟨rfl, rfl⟩ <;> rcases gam hj with ⟨rfl, h⟩ | ⟨rfl, h⟩ | ⟨rfl, h⟩ <;> first | rfl | (exfalso; omega)
  · rcases gam hg with ⟨rfl, rfl⟩ | ⟨rfl, rfl⟩ | ⟨rfl, rfl⟩
    · cases hc; exact h0
    · cases hc; exact h1
    · cases hc; exact h2
  · exact Cub.stOf_glob (i := 8) (g := 0) (by decide) rfl rfl
  · exact Cub.stOf_glob (i := 11) (g := 1) (by decide) rfl rfl
  · exact Cub.stOf_glob (i := 12) (g := 2) (by decide) rfl rfl

theorem phi9 : Cub.Sh.S.φ 9 = 6 := by
  show Cub.phiOf Cub.Sh.phiT 9 = 6
  unfold Cub.phiOf
  rw [Cub.Sh.p9]

theorem walk {H : Type} {enc : TypeId × Value → H} {W : World} {base : Nat} {held : Bool} {v : Value} {d : DataW H} {p : List MemPlace} (hL : laidMetH Tryz.prog Rows.shardNoneRow.laid W)
    (hv : Value.okWide Tryz.prog W .any base 50 v) (h : DataW.Trod enc Tryz.prog W 0 (fun _ => true) held 50 v d p) :
    Calls Tryz.prog 6 #[v] W fun e W' => e = .returned (.bool true) ∧ Below W.heap.size W W' := by
  obtain ⟨hR, hG, h0⟩ := rel_start hL
  obtain ⟨w, t, l, k, n, a, m, c, hV⟩ := act_open h0 hv h
  have hEx := Cub.shardNone_gives hG (show 64 ≤ 64 + W.heap.size from Nat.le_add_right 64 _) w t l k n a m c
  have := Cub.calls_of seat hEx (args' := #[v]) (.cons hV .nil) hR
  rw [phi9] at this
  refine Calls.mono this fun e W' => ?_
  rintro ⟨v', st', σ', u, rfl, ⟨v2, e1, e2⟩, hu, _, hg⟩
  cases e1
  subst e2
  simp only [Cub.VR] at hu
  subst hu
  exact ⟨rfl, Cub.below_of hg fun i l _ => Cub.stOf_wr i⟩

end Go.Proofs.YthlkeifhdihihaaGreatDoor
