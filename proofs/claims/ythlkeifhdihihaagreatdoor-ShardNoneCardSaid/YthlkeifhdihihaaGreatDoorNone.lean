/- What the law gives for nil and zero shards. -/
import Derived.Test.YthlkeifhdihihaaGreatDoorKnown
set_option linter.unusedVariables false
set_option linter.unusedSimpArgs false
namespace Cub
open Own

/-- A state that has all that another one has. -/
def Ext (st st' : St) : Prop := st.next ≤ st'.next ∧ ∀ i, i < st.next → st'.mem i = st.mem i
theorem Ext.refl (st : St) : Ext st st := ⟨Nat.le_refl _, fun _ _ => rfl⟩
theorem Ext.trans {a b c : St} (h : Ext a b) (h' : Ext b c) : Ext a c := ⟨Nat.le_trans h.1 h'.1, fun i hi => (h'.2 i (Nat.lt_of_lt_of_le hi h.1)).trans (h.2 i hi)⟩
theorem Ext.new (st : St) (o : Obj) : Ext st (st.new o) := ⟨Nat.le_succ _, fun i hi => by rw [new_mem, if_neg (by omega)]⟩
theorem Ext.cells {st st' : St} (h : Ext st st') {b : Nat} {c : List V} (hb : b < st.next) (hc : cellsAt st b = some c) : cellsAt st' b = some c := by
  unfold cellsAt at *
  rw [h.2 b hb]; exact hc
theorem Ext.hasG {st st' : St} (h : Ext st st') (hn : 64 ≤ st.next) (hg : HasG st) : HasG st' :=
  ⟨(h.2 8 (by omega)).trans hg.1, (h.2 11 (by omega)).trans hg.2.1, (h.2 12 (by omega)).trans hg.2.2⟩

def zeroShards : List V := [.int .i64 0, .int .i64 0, .int .i64 0, .int .u64 0, .bool false, .int .i64 0, .int .u64 0, .bool false, .map none, .slice none 0 (.is 0)]
/-- Nil or zero shards. -/
def Zs (s : V) (st : St) : Prop := s = .ptr none ∨ ∃ b, s = .ptr (some (b, 0)) ∧ b < st.next ∧ cellsAt st b = some zeroShards
theorem Zs.ext {s : V} {st st' : St} (h : Zs s st) (x : Ext st st') : Zs s st' := by
  rcases h with h | ⟨b, h1, h2, h3⟩
  · exact .inl h
  · exact .inr ⟨b, h1, Nat.lt_of_lt_of_le h2 x.1, x.cells h2 h3⟩

theorem y199 : tab.get 199 = some f199 := rfl
theorem y202 : tab.get 202 = some f202 := rfl
theorem y192 : tab.get 192 = some f192 := rfl
theorem y75 : tab.get 75 = some f75 := rfl
theorem y69 : tab.get 69 = some f69 := rfl
theorem y73 : tab.get 73 = some f73 := rfl
theorem y78 : tab.get 78 = some f78 := rfl
theorem y76 : tab.get 76 = some f76 := rfl
theorem y66 : tab.get 66 = some f66 := rfl
theorem y74 : tab.get 74 = some f74 := rfl
theorem y68 : tab.get 68 = some f68 := rfl
theorem y70 : tab.get 70 = some f70 := rfl
theorem y79 : tab.get 79 = some f79 := rfl
theorem y9 : tab.get 9 = some f9 := rfl

theorem none_gives {s : V} {st : St} (h : Zs s st) : Gives tab.get 199 [s] st (fun v s' => v = .bool true ∧ s' = st) := by
  refine gives_wp y199 ?_
  rcases h with rfl | ⟨b, rfl, h2, h3⟩
  · simp [f199, Own.s, step1, enterEnv, eqS, eqV, resV, resAll, resOne]
  · have hl : loadN st b 8 1 = some [.map none] := by simp [loadC h3, zeroShards]
    simp [f199, Own.s, step1, enterEnv, eqS, eqV, resV, resAll, resOne, hl, pack]

theorem named_gives {s n : V} {st : St} (h : Zs s st) : Gives tab.get 202 [s, n] st (fun v s' => v = .int .i64 1 ∧ s' = st) := by
  refine gives_wp y202 ?_
  simp [f202, Own.s, step1, enterEnv]
  refine wps_callP (none_gives h) ?_
  rintro v rfl
  simp [Own.s, step1, resV, resAll, resOne]

theorem keyed_gives {s n : V} {st : St} (h : Zs s st) : Gives tab.get 192 [s, n] st (fun v s' => v = .int .i64 1 ∧ s' = st) := by
  refine gives_wp y192 ?_
  simp [f192, Own.s, step1, enterEnv]
  refine wps_callP (none_gives h) ?_
  rintro v rfl
  simp [Own.s, step1, resV, resAll, resOne]

theorem remove_gives {s t : V} {n : List UInt8} {st : St} (h : Zs s st) : Gives tab.get 75 [s, t, .str n] st (fun v s' => v = .tuple [.int .i64 0, .int .i64 1] ∧ Ext st s') := by
  refine gives_wp y75 ?_
  have hl : loadN (st.new (.cells [.str n] none)) st.next 0 1 = some [.str n] := by simp [loadN, cellsAt, new_mem]
  simp [f75, Own.s, step1, enterEnv, V.cells, hl, pack]
  refine wps_callP (named_gives (h.ext (.new _ _))) ?_
  rintro v rfl
  simp [Own.s, step1, bin, binInt, resV, resAll, resOne]
  exact .new _ _

theorem get_gives {s t : V} {n : List UInt8} {st : St} (h : Zs s st) : Gives tab.get 69 [s, t, .str n] st (fun v s' => v = .tuple [.slice none 0 (.is 0), .bool false, .int .i64 1] ∧ Ext st s') := by
  refine gives_wp y69 ?_
  simp [f69, Own.s, step1, enterEnv]
  refine wps_callP (keyed_gives h) ?_
  rintro v rfl
  simp [Own.s, step1, bin, binInt, resV, resAll, resOne]
  exact .refl _
theorem delete_gives {s t : V} {n : List UInt8} {st : St} (h : Zs s st) : Gives tab.get 73 [s, t, .str n] st (fun v s' => v = .tuple [.bool false, .int .i64 1] ∧ Ext st s') := by
  refine gives_wp y73 ?_
  simp [f73, Own.s, step1, enterEnv]
  refine wps_callP (keyed_gives h) ?_
  rintro v rfl
  simp [Own.s, step1, bin, binInt, resV, resAll, resOne]
  exact .refl _
theorem where_gives {s : V} {n : List UInt8} {st : St} (h : Zs s st) : Gives tab.get 78 [s, .str n] st (fun v s' => v = .tuple [.str [], .int .i64 1] ∧ Ext st s') := by
  refine gives_wp y78 ?_
  simp [f78, Own.s, step1, enterEnv]
  refine wps_callP (keyed_gives h) ?_
  rintro v rfl
  simp [Own.s, step1, bin, binInt, resV, resAll, resOne]
  exact .refl _
theorem cache_gives {s : V} {n : List UInt8} {st : St} (h : Zs s st) : Gives tab.get 76 [s, .str n] st (fun v s' => v = .tuple [.ptr none, .int .i64 1] ∧ Ext st s') := by
  refine gives_wp y76 ?_
  simp [f76, Own.s, step1, enterEnv]
  refine wps_callP (named_gives h) ?_
  rintro v rfl
  simp [Own.s, step1, bin, binInt, resV, resAll, resOne]
  exact .refl _
theorem add_gives {s t : V} {n : List UInt8} {st : St} (h : Zs s st) : Gives tab.get 74 [s, t, .str n] st (fun v s' => v = .tuple [.int .i64 0, .int .i64 1] ∧ Ext st s') := by
  refine gives_wp y74 ?_
  simp [f74, Own.s, step1, enterEnv]
  refine wps_callP (named_gives h) ?_
  rintro v rfl
  simp [Own.s, step1, bin, binInt, resV, resAll, resOne]
  exact .refl _
theorem adds_gives {s t : V} {n : List UInt8} {st : St} (h : Zs s st) : Gives tab.get 66 [s, t, .str n, .int .i64 0, .int .i64 1] st (fun v s' => v = .bool true ∧ Ext st s') := by
  refine gives_wp y66 ?_
  simp [f66, Own.s, step1, enterEnv]
  refine wps_call (add_gives h) ?_
  rintro v s' ⟨rfl, hx⟩
  simp [Own.s, step1, enterEnv, bin, binInt, resV, resAll, resOne]
  exact hx
theorem set_gives {s t l x : V} {n : List UInt8} {st : St} (h : Zs s st) : Gives tab.get 68 [s, t, .str n, x, l] st (fun v s' => v = .int .i64 1 ∧ Ext st s') := by
  refine gives_wp y68 ?_
  simp [f68, Own.s, step1, enterEnv]
  refine wps_callP (keyed_gives h) ?_
  rintro v rfl
  simp [Own.s, step1, bin, binInt, resV, resAll, resOne]
  exact .refl _
theorem names_gives {s : V} {st : St} (h : Zs s st) : Gives tab.get 70 [s] st (fun v s' => v = .slice none 0 (.is 0) ∧ Ext st s') := by
  refine gives_wp y70 ?_
  simp [f70, Own.s, step1, enterEnv]
  refine wps_callP (none_gives h) ?_
  rintro v rfl
  simp [Own.s, step1, resV, resAll, resOne]
  exact .refl _
theorem copy_gives {s : V} {st : St} (h : Zs s st) : Gives tab.get 79 [s] st (fun v s' => v = .ptr none ∧ Ext st s') := by
  refine gives_wp y79 ?_
  simp [f79, Own.s, step1, enterEnv]
  refine wps_callP (none_gives h) ?_
  rintro v rfl
  simp [Own.s, step1, resV, resAll, resOne]
  exact .refl _
end Cub

namespace Cub
open Own

theorem known_gives' {st : St} (hg : HasG st) : Gives tab.get 59 [] st (fun v s => v = .bool true ∧ s = st) :=
  (known_gives hg).mono fun r s ⟨h1, h2⟩ => ⟨_, h1, rfl, h2⟩

def actCells (w t l : Int) (k n : List UInt8) (a : Option (Nat × Nat)) (m : Nat) (c : Cap) : List V := [.int .i64 w, .int .u64 t, .int .u64 l, .str k, .str n, .slice a m c]

theorem shardNone_gives {st : St} (hg : HasG st) (h64 : 64 ≤ st.next) (w t l : Int) (k n : List UInt8) (a : Option (Nat × Nat)) (m : Nat) (c : Cap) :
    Gives tab.get 9 [.agg (actCells w t l k n a m c)] st (fun v _ => v = .bool true) := by
  refine gives_wp y9 ?_
  let st1 := st.new (.cells (actCells w t l k n a m c) none)
  have x1 : Ext st st1 := .new _ _
  have hc1 : cellsAt st1 st.next = some (actCells w t l k n a m c) := by simp [st1, cellsAt, new_mem]
  have ld : ∀ {s' : St}, Ext st1 s' → loadN s' st.next 1 1 = some [.int .u64 t] ∧ loadN s' st.next 2 1 = some [.int .u64 l] ∧ loadN s' st.next 3 1 = some [.str k] ∧ loadN s' st.next 4 1 = some [.str n] ∧ loadN s' st.next 5 1 = some [.slice a m c] := by
    intro s' hx
    have := hx.cells (by simp [st1]) hc1
    simp [loadC this, actCells]
  obtain ⟨l1, l2, l3, l4, l5⟩ := ld (.refl st1)
  have hbox : step1 (.box (.t 0)) (enterEnv [.agg (actCells w t l k n a m c)]) st = some (.ptr (some (st.next, 0)), st1) := rfl
  have fin := known_gives' (x1.hasG h64 hg)
  simp [f9, Own.s, hbox]
  simp [step1, l3, l4, l5, pack, bin, binInt]
  by_cases g1 : (100 : Int) < k.length
  · simp [step1, g1]
    refine wps_callP fin ?_
    rintro v rfl
    simp [step1, resV, resAll, resOne]
  simp [step1, l3, l4, l5, pack, bin, binInt, g1]
  by_cases g2 : (100 : Int) < m
  · simp [step1, g2]
    refine wps_callP fin ?_
    rintro v rfl
    simp [step1, resV, resAll, resOne]
  simp [step1, l3, l4, l5, pack, bin, binInt, g2]
  by_cases g3 : (100 : Int) < n.length
  · simp [step1, g3]
    refine wps_callP fin ?_
    rintro v rfl
    simp [step1, resV, resAll, resOne]
  let st2 := st1.new (.cells zeroShards none)
  let st3 := st2.new (.cells [.ptr none, .ptr (some (st.next + 1, 0))] (some 0))
  have hn1 : st1.next = st.next + 1 := rfl
  have hn2 : st2.next = st.next + 2 := rfl
  have x3 : Ext st1 st3 := (Ext.new _ _).trans (.new _ _)
  have hz : cellsAt st3 (st.next + 1) = some zeroShards := by simp [st3, st2, cellsAt, new_mem, hn1]
  have ha : cellsAt st3 (st.next + 2) = some [.ptr none, .ptr (some (st.next + 1, 0))] := by simp [st3, cellsAt, new_mem, hn2]
  simp [step1, fillAt, V.cells, splice, rep, g3]
  refine wp_loop (fun m' e s' => ∃ i, m' = 2 - i ∧ i ≤ 2 ∧ e 37 = .int .i64 (i : Nat) ∧ e 36 = .int .i64 2 ∧ e 35 = .slice (some (st.next + 2, 0)) 2 (.is 2) ∧ e 1 = .ptr (some (st.next, 0)) ∧ Ext st3 s') 2 ?_ ?_
  · exact ⟨0, rfl, by omega, by simp, by simp, by simp [hn1], by simp, .refl _⟩
  · rintro m' e s' ⟨i, rfl, hi, e1, e2, e3, e4, hx⟩
    obtain ⟨l1, l2, l3, l4, l5⟩ := ld (x3.trans hx)
    by_cases hi2 : i < 2
    · obtain ⟨sv, hel, hzs⟩ : ∃ sv, loadN s' (st.next + 2) i 1 = some [sv] ∧ Zs sv s' := by
        have h2 := hx.cells (by simp [st3, hn2]) ha
        have h3 := hx.cells (by simp [st3, hn2]) hz
        have : i = 0 ∨ i = 1 := by omega
        rcases this with rfl | rfl
        · exact ⟨.ptr none, by simp [loadC h2], .inl rfl⟩
        · exact ⟨.ptr (some (st.next + 1, 0)), by simp [loadC h2], .inr ⟨_, rfl, Nat.lt_of_lt_of_le (by simp [st3, hn2]) hx.1, h3⟩⟩
      have c1 : (i : Int) < 2 := by omega
      have hix : asIdx (.int .i64 (i : Int)) 2 = some i := by simp [asIdx]; omega
      simp [Own.s, step1, bin, binInt, e1, e2, e3, e4, c1, hix, hel, pack, l1, l4]
      refine wps_call (remove_gives hzs) ?_
      rintro v sa ⟨rfl, y1⟩
      have z1 := hzs.ext y1
      have hx1 := hx.trans y1
      obtain ⟨l1, l2, l3, l4, l5⟩ := ld (x3.trans hx1)
      simp [Own.s, step1, e1, e2, e3, e4, pack, l1, l3]
      refine wps_call (get_gives z1) ?_
      rintro v sb ⟨rfl, y2⟩
      have z2 := z1.ext y2
      have hx2 := hx1.trans y2
      obtain ⟨l1, l2, l3, l4, l5⟩ := ld (x3.trans hx2)
      simp [Own.s, step1, e1, e2, e3, e4, pack, l1, l3]
      refine wps_call (delete_gives z2) ?_
      rintro v sc ⟨rfl, y3⟩
      have z3 := z2.ext y3
      have hx3 := hx2.trans y3
      obtain ⟨l1, l2, l3, l4, l5⟩ := ld (x3.trans hx3)
      simp [Own.s, step1, e1, e2, e3, e4, pack, l3]
      refine wps_call (where_gives z3) ?_
      rintro v sd ⟨rfl, y4⟩
      have z4 := z3.ext y4
      have hx4 := hx3.trans y4
      obtain ⟨l1, l2, l3, l4, l5⟩ := ld (x3.trans hx4)
      simp [Own.s, step1, e1, e2, e3, e4, pack, l4]
      refine wps_call (cache_gives z4) ?_
      rintro v se ⟨rfl, y5⟩
      have z5 := z4.ext y5
      have hx5 := hx4.trans y5
      obtain ⟨l1, l2, l3, l4, l5⟩ := ld (x3.trans hx5)
      simp [Own.s, step1, e1, e2, e3, e4, pack, l1, l4]
      refine wps_call (adds_gives z5) ?_
      rintro v sf ⟨rfl, y6⟩
      have z6 := z5.ext y6
      have hx6 := hx5.trans y6
      obtain ⟨l1, l2, l3, l4, l5⟩ := ld (x3.trans hx6)
      simp [Own.s, step1, bin, binInt, un, e1, e2, e3, e4, pack, l1, l2, l3, l5]
      refine wps_call (set_gives z6) ?_
      rintro v sg ⟨rfl, y7⟩
      have z7 := z6.ext y7
      have hx7 := hx6.trans y7
      simp [Own.s, step1, bin, binInt, binStr, e1, e2, e3, e4, pack]
      refine wps_call (names_gives z7) ?_
      rintro v sh ⟨rfl, y8⟩
      have z8 := z7.ext y8
      have hx8 := hx7.trans y8
      simp [Own.s, step1, bin, binInt, eqS, eqV, e1, e2, e3, e4, pack]
      refine wps_call (copy_gives z8) ?_
      rintro v si ⟨rfl, y9⟩
      have hx9 := hx8.trans y9
      have hw : Go.IntKind.wrap .i64 (↑i + 1) = (i : Int) + 1 := by rw [w_i64 (by omega) (by omega)]
      simp [Own.s, step1, bin, binInt, eqS, eqV, e1, e2, e3, e4, hw]
      exact ⟨2 - (i + 1), by omega, i + 1, rfl, by omega, by omega, hx9⟩
    · have c1 : ¬ (i : Int) < 2 := by omega
      simp [Own.s, step1, bin, binInt, e1, e2, e3, e4, c1]
      refine wps_callP (known_gives' ((x1.trans (x3.trans hx)).hasG h64 hg)) ?_
      rintro v rfl
      simp [step1, resV, resAll, resOne]
end Cub
