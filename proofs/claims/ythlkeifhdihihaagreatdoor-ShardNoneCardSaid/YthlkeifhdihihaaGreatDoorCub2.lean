/- Own framework, part 2: an intermediate code, what it means, that the model's calls end as it says, and a way to check that own code is a translation's. It states nothing of the program. -/
import Derived.AtR
import Derived.Orders
import Derived.RangeFuncIn
import Derived.RangeFuncLeaves
import Derived.Test.YthlkeifhdihihaaGreatDoorCub1
set_option linter.unusedVariables false
set_option linter.unusedSimpArgs false
/- Operations that change what is there: cells, maps, iterators. -/
namespace Cub
open Go (Value World Addr TypeId FuncId Program Oper Operand Sem Result)
variable {S : Seat} {fns : Nat → Prop} {ρ : Operand → Value} {o : Oper} {σ : Sg} {st st' : St} {w : World} {e : Env} {v : V}

theorem run_setObj {P : Program} {r : Nat} {x y : Go.Obj} (h : w.heap[r]? = some x) (hn : ∀ a b c, x ≠ .cells a b c) : (Go.setObj r y).run P w = .ok () { w with heap := w.heap.setIfInBounds r y } := by
  simp only [Go.setObj, Sem.run, h]

theorem vr_undef (σ : Sg) : VR S σ .undef Go.undef := by
  simp only [VR, Go.undef]; exact ⟨_, rfl, VRs.nil⟩

theorem heap_set {h : Array Go.Obj} {r : Nat} {x y : Go.Obj} (hr : h[r]? = some x) : (h.setIfInBounds r y).size = h.size ∧ (∀ b, b ≠ r → (h.setIfInBounds r y)[b]? = h[b]?) ∧ (h.setIfInBounds r y)[r]? = some y := by
  have hlt := (Array.getElem?_eq_some_iff.1 hr).1
  refine ⟨by simp, fun b hb => ?_, by simp [Array.getElem?_setIfInBounds, hlt]⟩
  simp only [Array.getElem?_setIfInBounds]
  rw [if_neg (Ne.symm hb)]

theorem does_store {n : Nat} {a x : X} (hR : Rel S fns σ st w) (ho : OpSh S fns o (.store n a x)) (hv : VRs S σ ((Op.store n a x).opnds.map (·.ev e)) (o.op.operands.toList.map ρ))
    (h : step1 (.store n a x) e st = some (v, st')) : Does S fns ρ o σ st w v st' := by
  obtain ⟨t, a', b', ha, ⟨i, hi, hin⟩⟩ := ho
  rw [ha] at hv
  obtain ⟨h1, h2⟩ : VR S σ (a.ev e) (ρ a') ∧ VR S σ (x.ev e) (ρ b') := vrs2 hv
  simp only [step1] at h
  split at h
  · rename_i b off hx
    split at h
    · rename_i l hl
      split at h
      · rename_i hlen
        cases hs : storeN st b off l with
        | none => rw [hs] at h; cases h
        | some s2 =>
          rw [hs] at h
          cases h
          rw [hx] at h1; simp only [VR] at h1
          obtain ⟨p, e1, lc, hσ, rfl⟩ := h1
          obtain ⟨g1, g2⟩ := h2.cells hl
          obtain ⟨heap, hr, hrel, hgo, _⟩ := store_rel hR hσ hs g1 g2
          refine ⟨Go.undef, _, σ, .inr ⟨?_, rfl⟩, vr_undef σ, hrel, hgo⟩
          have hsz : (ρ b').cells.size = n := by have := g1.length; simp at this; omega
          simp only [Go.execOp, ha, Go.Instr.storeAt, e1, Go.Instr.sureAddr, Sem.run_bind, Sem.run_pure, Result.andThen_ok, Go.storeVar, run_size hi, hin]
          rw [Sem.run_ite, if_neg (by simpa using hsz)]
          simp only [hr, Result.andThen_ok]
      · cases h
    · cases h
  · cases h

/-- A map gets other entries. -/
theorem map_set (hR : Rel S fns σ st w) {r : Nat} {l : Loc} {es es2 : List (V × V × Nat)} {clock clock2 : Nat} {es' es2' : Array Go.MapEntry} (hσ : σ r = some l) (hm : st.mem r = some (.map es clock))
    (hh : w.heap[l.blk]? = some (.map es' clock)) (h2 : All2 (EntM S σ) es2 es2'.toList) :
    Rel S fns σ (st.set r (some (.map es2 clock2))) { w with heap := w.heap.setIfInBounds l.blk (.map es2' clock2) } ∧ Goes σ st w σ (st.set r (some (.map es2 clock2))) { w with heap := w.heap.setIfInBounds l.blk (.map es2' clock2) } := by
  obtain ⟨a1, a2, a3⟩ := heap_set (y := .map es2' clock2) hh
  exact ⟨hR.set hσ (by simp [hm]) a1 a2 ⟨es2', a3, h2⟩ (fun _ => hR.zero r _ l hm hσ (by simp [NotCells])), .set hσ (by simp [hm, Wr]) _ a1 a2 (fun q hq => by rw [hh] at hq; cases hq)⟩

theorem all2_modify {α β : Type} {R : α → β → Prop} {f : α → α} {g : β → β} : ∀ {l : List α} {m : List β} (i : Nat), All2 R l m → (∀ a b, l[i]? = some a → m[i]? = some b → R a b → R (f a) (g b)) → All2 R (l.modify i f) (m.modify i g)
  | [], [], i, _, _ => by simp [All2]
  | a :: l, b :: m, 0, h, hf => ⟨hf a b rfl rfl h.1, by simpa using h.2⟩
  | a :: l, b :: m, i + 1, h, hf => ⟨h.1, all2_modify i h.2 (fun a b e1 e2 => hf a b (by simpa using e1) (by simpa using e2))⟩
  | [], _ :: _, _, h, _ => h.elim
  | _ :: _, [], _, h, _ => h.elim
theorem all2_eraseIdx {α β : Type} {R : α → β → Prop} : ∀ {l : List α} {m : List β} (i : Nat), All2 R l m → All2 R (l.eraseIdx i) (m.eraseIdx i)
  | [], [], i, _ => by simp [All2]
  | a :: l, b :: m, 0, h => h.2
  | a :: l, b :: m, i + 1, h => ⟨h.1, all2_eraseIdx i h.2⟩
  | [], _ :: _, _, h => h.elim
  | _ :: _, [], _, h => h.elim

theorem ba_beq (a : ByteArray) : (a == a) = true := by
  rw [Go.beq_toListBytes]; simp

theorem sameBits_key {y : Ty} (hk : KeyTy y = true) {a b : V} {a' b' : Value} (ha : VR S σ a a') (hb : VR S σ b b') (h : eqV y a b = some true) (n : Nat) : Go.Instr.sameBits n b' a' = true ∧ b' = a' := by
  cases y <;> simp [KeyTy] at hk <;> simp only [eqV] at h
  · split at h
    · rename_i p q
      simp at h; subst h
      simp only [VR] at ha hb; subst ha; subst hb
      exact ⟨by cases n <;> simp [Go.Instr.sameBits], rfl⟩
    · cases h
  · split at h
    · rename_i k p k' q
      split at h
      · rename_i hkk; subst hkk
        simp at h; subst h
        simp only [VR] at ha hb; subst ha; subst hb
        exact ⟨by cases n <;> simp [Go.Instr.sameBits], rfl⟩
      · cases h
    · cases h
  · split at h
    · rename_i p q
      simp at h; subst h
      simp only [VR] at ha hb; subst ha; subst hb
      exact ⟨by cases n <;> (simp only [Go.Instr.sameBits]; exact ba_beq _), rfl⟩
    · cases h

theorem does_mapUpdate {y : Ty} {m k x : X} (hR : Rel S fns σ st w) (ho : OpSh S fns o (.mapUpdate y m k x)) (hv : VRs S σ ((Op.mapUpdate y m k x).opnds.map (·.ev e)) (o.op.operands.toList.map ρ))
    (h : step1 (.mapUpdate y m k x) e st = some (v, st')) : Does S fns ρ o σ st w v st' := by
  obtain ⟨t, a, b, c, kt, et, ha, hu, hkt, hk⟩ := ho
  have hv' : VRs S σ [m.ev e, k.ev e, x.ev e] [ρ a, ρ b, ρ c] := by rcases ha with ha | ha <;> (rw [ha] at hv; exact hv)
  obtain ⟨h1, h2, h3⟩ := vrs3 hv'
  obtain ⟨kd, hkd⟩ := und_of_key hk hkt
  have hck : ∀ bb, (Go.Instr.checkKey bb 10000 kt (ρ b)).run S.P w = .ok () w := fun bb => run_checkKey (S := S) (w := w) hk hkt bb (ρ b) 9999
  have hex : (Go.execOp ρ o) = (do Go.Instr.mapUpdate t (ρ a) (ρ b) (ρ c); pure .skip) := by rcases ha with ha | ha <;> simp only [Go.execOp, ha]
  simp only [step1] at h
  split at h
  · rename_i r hx
    rw [hx] at h1; simp only [VR] at h1
    obtain ⟨l, hl, e1⟩ := h1
    split at h
    · rename_i es clock hm
      obtain ⟨es', hh, hes⟩ := map_rel hR hl hm
      cases hf : findKey y (k.ev e) es 0 with
      | none => simp [hf] at h
      | some rr =>
        obtain ⟨r', hr1, hr2⟩ := findKey_rel (S := S) (σ := σ) hk hkt hkd h2 es es'.toList 0 rr hes hf
        have hfk : (Go.Instr.findKey kt (ρ b) es'.toList).run S.P w = .ok r' w := by
          simp only [Go.Instr.findKey, Sem.run_bind, run_und hkd, Result.andThen_ok, hr1, Sem.run_pure]
        cases rr with
        | none =>
          cases r' with
          | some _ => exact hr2.elim
          | none =>
            simp only [hf, Option.bind_eq_bind, Option.bind_some, Option.some.injEq, Prod.mk.injEq] at h
            obtain ⟨rfl, rfl⟩ := h
            obtain ⟨g1, g2⟩ := map_set (es2 := es ++ [(k.ev e, x.ev e, clock)]) (clock2 := clock + 1) (es2' := es'.push { key := ρ b, val := ρ c, born := clock }) hR hl hm hh (by
              rw [Array.toList_push]; exact hes.append ⟨⟨h2, h3, rfl⟩, trivial⟩)
            refine ⟨Go.undef, _, σ, .inr ⟨?_, rfl⟩, vr_undef σ, g1, g2⟩
            rw [hex]
            simp only [Go.Instr.mapUpdate, Sem.run_bind, run_und hu, Result.andThen_ok, e1, run_getObj hh (by simp), hck, hfk, run_setObj hh (by simp), Sem.run_pure]
        | some p =>
          cases r' with
          | none => exact hr2.elim
          | some p' =>
            obtain ⟨hj, hvv, _, en, en', he1, he2, hq⟩ := hr2
            simp only [hf, Option.bind_eq_bind, Option.bind_some, Option.some.injEq, Prod.mk.injEq] at h
            obtain ⟨rfl, rfl⟩ := h
            simp only [Nat.sub_zero] at he1 he2
            obtain ⟨en2, hen2, hen⟩ := hes.get _ _ he1
            rw [he2] at hen2; cases hen2
            obtain ⟨hsb, hke⟩ := sameBits_key hk h2 hen.1 hq 10000
            have he2' : es'[p'.1]? = some en' := by rw [← hj, ← Array.getElem?_toList]; exact he2
            obtain ⟨g1, g2⟩ := map_set (es2 := es.modify p.1 fun (k', _, b) => (k', x.ev e, b)) (clock2 := clock) (es2' := es'.modify p'.1 fun en => { en with key := ρ b, val := ρ c }) hR hl hm hh (by
              rw [Array.toList_modify, ← hj]
              refine all2_modify p.1 hes fun a b1 ea eb hab => ⟨?_, h3, hab.2.2⟩
              rw [he1] at ea; cases ea
              rw [he2] at eb; cases eb
              simp only
              rw [← hke]; exact hab.1)
            refine ⟨Go.undef, _, σ, .inr ⟨?_, rfl⟩, vr_undef σ, g1, g2⟩
            rw [hex]
            have hkts : (Go.Instr.keyThatStays (((es'[p'.1]?).map (·.key)).getD (ρ b)) (ρ b)).run S.P w = .ok (ρ b) w := by
              rw [he2']
              simp only [Option.map_some, Option.getD_some, Go.Instr.keyThatStays, hsb, if_true, Sem.run_pure]
            simp only [Go.Instr.mapUpdate, Sem.run_bind, run_und hu, Result.andThen_ok, e1, run_getObj hh (by simp), hck, hfk, hkts, run_setObj hh (by simp), Sem.run_pure]
    · cases h
  · cases h

theorem goInt_rel (σ : Sg) (n : Nat) : VR S σ (.int .i64 n) (Go.goInt n) := by simp only [VR, Go.goInt]

theorem does_mapEntry {y : Ty} {zero : V} {m k : X} (hR : Rel S fns σ st w) (ho : OpSh S fns o (.mapEntry y zero m k)) (hv : VRs S σ ((Op.mapEntry y zero m k).opnds.map (·.ev e)) (o.op.operands.toList.map ρ))
    (h : step1 (.mapEntry y zero m k) e st = some (v, st')) : Does S fns ρ o σ st w v st' := by
  obtain ⟨t, a, b, kt, et, ha, hu, hkt, hk, iz, z, hiz, hzz, hzv⟩ := ho
  rw [ha] at hv
  obtain ⟨h1, h2⟩ : VR S σ (m.ev e) (ρ a) ∧ VR S σ (k.ev e) (ρ b) := vrs2 hv
  have hzv' : VR S σ zero z := hzv.le (fun _ _ h => by cases h)
  obtain ⟨kd, hkd⟩ := und_of_key hk hkt
  have hck : ∀ bb, (Go.Instr.checkKey bb 10000 kt (ρ b)).run S.P w = .ok () w := fun bb => run_checkKey (S := S) (w := w) hk hkt bb (ρ b) 9999
  simp only [step1] at h
  split at h
  · rename_i r hx
    rw [hx] at h1; simp only [VR] at h1
    obtain ⟨l, hl, e1⟩ := h1
    split at h
    · rename_i es clock hm
      obtain ⟨es', hh, hes⟩ := map_rel hR hl hm
      cases hf : findKey y (k.ev e) es 0 with
      | none => simp [hf] at h
      | some rr =>
        obtain ⟨r', hr1, hr2⟩ := findKey_rel (S := S) (σ := σ) hk hkt hkd h2 es es'.toList 0 rr hes hf
        have hfk : (Go.Instr.findKey kt (ρ b) es'.toList).run S.P w = .ok r' w := by
          simp only [Go.Instr.findKey, Sem.run_bind, run_und hkd, Result.andThen_ok, hr1, Sem.run_pure]
        cases rr with
        | none =>
          cases r' with
          | some _ => exact hr2.elim
          | none =>
            simp only [hf, Option.bind_eq_bind, Option.bind_some, Option.some.injEq, Prod.mk.injEq] at h
            obtain ⟨rfl, rfl⟩ := h
            obtain ⟨g1, g2⟩ := map_set (es2 := es ++ [(k.ev e, zero, clock)]) (clock2 := clock + 1) (es2' := es'.push { key := ρ b, val := z, born := clock }) hR hl hm hh (by
              rw [Array.toList_push]; exact hes.append ⟨⟨h2, hzv', rfl⟩, trivial⟩)
            refine ⟨.tuple #[z, Go.goInt clock], _, σ, .inl ?_, by simp only [VR]; exact ⟨_, rfl, .cons hzv' (.cons (goInt_rel σ _) .nil)⟩, g1, g2⟩
            simp only [Go.execOp, ha, Go.Instr.mapEntry, Sem.run_bind, run_und hu, Result.andThen_ok, e1, run_getObj hh (by simp), hck, hfk, run_zero hiz hzz, run_setObj hh (by simp), Sem.run_pure]
        | some p =>
          cases r' with
          | none => exact hr2.elim
          | some p' =>
            obtain ⟨hj, hvv, _, en, en', he1, he2, hq⟩ := hr2
            simp only [Nat.sub_zero] at he1 he2
            simp only [hf, Option.bind_eq_bind, Option.bind_some, he1, Option.some.injEq, Prod.mk.injEq] at h
            obtain ⟨rfl, rfl⟩ := h
            obtain ⟨en2, hen2, hen⟩ := hes.get _ _ he1
            rw [he2] at hen2; cases hen2
            obtain ⟨hsb, hke⟩ := sameBits_key hk h2 hen.1 hq 10000
            have he2' : es'[p'.1]? = some en' := by rw [← hj, ← Array.getElem?_toList]; exact he2
            have hmod : es'.modify p'.1 (fun en => { en with key := ρ b }) = es' := by
              apply Array.ext_getElem?
              intro q
              rw [Array.getElem?_modify]
              split
              · rename_i hq2; subst hq2; rw [he2']; simp only [Option.map_some]; congr 1; rw [← hke]
              · rfl
            have hself : (w.heap.setIfInBounds l.blk (.map es' clock)) = w.heap := by
              apply Array.ext_getElem?
              intro q
              obtain ⟨_, a2, a3⟩ := heap_set (y := Go.Obj.map es' clock) hh
              by_cases hq2 : q = l.blk
              · subst hq2; rw [a3, hh]
              · exact a2 q hq2
            refine ⟨.tuple #[p'.2, Go.goInt en'.born], w, σ, .inl ?_, by simp only [VR]; exact ⟨_, rfl, .cons hvv (.cons (by rw [hen.2.2]; exact goInt_rel σ _) .nil)⟩, hR, Goes.refl _ _ _⟩
            have hkts : (Go.Instr.keyThatStays en'.key (ρ b)).run S.P w = .ok (ρ b) w := by
              simp only [Go.Instr.keyThatStays, hsb, if_true, Sem.run_pure]
            have hso := run_setObj (P := S.P) (y := .map es' clock) hh (by simp)
            rw [hself] at hso
            simp only [Go.execOp, ha, Go.Instr.mapEntry, Sem.run_bind, run_und hu, Result.andThen_ok, e1, run_getObj hh (by simp), hck, hfk, hkts, hmod, hso, Sem.run_pure, he2', Option.map_some, Option.getD_some]
    · cases h
  · cases h

theorem does_entryStore {m s x : X} (hR : Rel S fns σ st w) (ho : OpSh S fns o (.entryStore m s x)) (hv : VRs S σ ((Op.entryStore m s x).opnds.map (·.ev e)) (o.op.operands.toList.map ρ))
    (h : step1 (.entryStore m s x) e st = some (v, st')) : Does S fns ρ o σ st w v st' := by
  obtain ⟨t, a, b, c, ha⟩ := ho
  rw [ha] at hv
  obtain ⟨h1, h2, h3⟩ : VR S σ (m.ev e) (ρ a) ∧ VR S σ (s.ev e) (ρ b) ∧ VR S σ (x.ev e) (ρ c) := vrs3 hv
  simp only [step1] at h
  split at h
  · rename_i r kk n hx hs
    rw [hx] at h1; simp only [VR] at h1
    rw [hs] at h2; simp only [VR] at h2
    obtain ⟨l, hl, e1⟩ := h1
    split at h
    · rename_i es clock hm
      obtain ⟨es', hh, hes⟩ := map_rel hR hl hm
      cases hf : es.findIdx? (fun (_, _, b) => (b : Int) == n) with
      | none => simp [hf] at h
      | some i =>
        simp only [hf, Option.bind_eq_bind, Option.bind_some, Option.some.injEq, Prod.mk.injEq] at h
        obtain ⟨rfl, rfl⟩ := h
        have hidx : ∀ (es : List (V × V × Nat)) (es' : List Go.MapEntry), All2 (EntM S σ) es es' → es'.findIdx? (fun q => (q.born : Int) == n) = es.findIdx? (fun (_, _, b) => (b : Int) == n) := by
          intro es
          induction es with
          | nil => intro es' h; cases es' with
            | nil => rfl
            | cons _ _ => exact h.elim
          | cons p es ih => intro es' h; cases es' with
            | nil => exact h.elim
            | cons q es' =>
              simp only [List.findIdx?_cons, ih es' h.2, h.1.2.2]
        have hf' : es'.findIdx? (fun q => (q.born : Int) == n) = some i := by
          have := hidx es es'.toList hes
          rw [← hf, ← this]; cases es'; exact List.findIdx?_toArray _ _
        obtain ⟨g1, g2⟩ := map_set (es2 := es.modify i fun (k, _, b) => (k, x.ev e, b)) (clock2 := clock) (es2' := es'.modify i fun en => { en with val := ρ c }) hR hl hm hh (by
          rw [Array.toList_modify]
          exact all2_modify i hes fun a b1 _ _ hab => ⟨hab.1, h3, hab.2.2⟩)
        refine ⟨Go.undef, _, σ, .inr ⟨?_, rfl⟩, vr_undef σ, g1, g2⟩
        simp only [Go.execOp, ha, Go.Instr.entryStore, Sem.run_bind, Result.andThen_ok, e1, run_getObj hh (by simp), h2, Go.asInt, Go.asIntOf, Sem.run_pure, hf', run_setObj hh (by simp)]
    · cases h
  · cases h

theorem does_delete {y : Ty} {m k : X} (hR : Rel S fns σ st w) (ho : OpSh S fns o (.delete y m k)) (hv : VRs S σ ((Op.delete y m k).opnds.map (·.ev e)) (o.op.operands.toList.map ρ))
    (h : step1 (.delete y m k) e st = some (v, st')) : Does S fns ρ o σ st w v st' := by
  obtain ⟨a, b, t, kt, et, ha, ⟨t0, ht0, hu⟩, hkt, hk⟩ := ho
  rw [ha] at hv
  have hv' : VRs S σ [m.ev e, k.ev e] [ρ a, ρ b] := hv
  obtain ⟨h1, h2⟩ := vrs2 hv'
  obtain ⟨kd, hkd⟩ := und_of_key hk hkt
  have hck : ∀ bb, (Go.Instr.checkKey bb 10000 kt (ρ b)).run S.P w = .ok () w := fun bb => run_checkKey (S := S) (w := w) hk hkt bb (ρ b) 9999
  have hex : ∀ {w2 : World}, (Go.Builtin.delete_ t o.type #[ρ a, ρ b]).run S.P w = .ok (.tuple #[]) w2 → (Go.execOp ρ o).run S.P w = .ok (.value Go.undef) w2 := by
    intro w2 hd
    simp only [Go.execOp, ha, Go.resolve, Sem.run_bind, Sem.run_pure, Result.andThen_ok, Go.invoke, Go.builtin]
    simp [hd, Go.undef]
  simp only [step1] at h
  split at h
  · rename_i hx
    cases h
    rw [hx] at h1; simp only [VR] at h1
    refine ⟨Go.undef, w, σ, .inl (hex ?_), vr_undef σ, hR, Goes.refl _ _ _⟩
    simp [Go.Builtin.delete_, ht0, run_und hu, h1, hck]
  · rename_i r hx
    rw [hx] at h1; simp only [VR] at h1
    obtain ⟨l, hl, e1⟩ := h1
    split at h
    · rename_i es clock hm
      obtain ⟨es', hh, hes⟩ := map_rel hR hl hm
      cases hf : findKey y (k.ev e) es 0 with
      | none => simp [hf] at h
      | some rr =>
        obtain ⟨r', hr1, hr2⟩ := findKey_rel (S := S) (σ := σ) hk hkt hkd h2 es es'.toList 0 rr hes hf
        have hfk : (Go.Instr.findKey kt (ρ b) es'.toList).run S.P w = .ok r' w := by
          simp only [Go.Instr.findKey, Sem.run_bind, run_und hkd, Result.andThen_ok, hr1, Sem.run_pure]
        cases rr with
        | none =>
          cases r' with
          | some _ => exact hr2.elim
          | none =>
            simp only [hf, Option.bind_eq_bind, Option.bind_some, Option.some.injEq, Prod.mk.injEq] at h
            obtain ⟨rfl, rfl⟩ := h
            have hself : (w.heap.setIfInBounds l.blk (.map es' clock)) = w.heap := by
              apply Array.ext_getElem?
              intro q
              obtain ⟨_, a2, a3⟩ := heap_set (y := Go.Obj.map es' clock) hh
              by_cases hq2 : q = l.blk
              · subst hq2; rw [a3, hh]
              · exact a2 q hq2
            have hso := run_setObj (P := S.P) (y := .map es' clock) hh (by simp)
            rw [hself] at hso
            refine ⟨Go.undef, w, σ, .inl (hex ?_), vr_undef σ, hR, Goes.refl _ _ _⟩
            simp [Go.Builtin.delete_, ht0, run_und hu, e1, run_getObj hh (by simp), hck, hfk, hso]
        | some p =>
          cases r' with
          | none => exact hr2.elim
          | some p' =>
            obtain ⟨hj, _⟩ := hr2
            simp only [hf, Option.bind_eq_bind, Option.bind_some, Option.some.injEq, Prod.mk.injEq] at h
            obtain ⟨rfl, rfl⟩ := h
            obtain ⟨g1, g2⟩ := map_set (es2 := es.eraseIdx p.1) (clock2 := clock) (es2' := es'.eraseIdxIfInBounds p'.1) hR hl hm hh (by
              rw [Array.toList_eraseIdxIfInBounds, ← hj]; exact all2_eraseIdx _ hes)
            refine ⟨Go.undef, _, σ, .inl (hex ?_), vr_undef σ, g1, g2⟩
            simp [Go.Builtin.delete_, ht0, run_und hu, e1, run_getObj hh (by simp), hck, hfk, run_setObj hh (by simp)]
    · cases h
  · cases h

theorem does_rangeMap {x : X} (hR : Rel S fns σ st w) (ho : OpSh S fns o (.rangeMap x)) (hv : VRs S σ ((Op.rangeMap x).opnds.map (·.ev e)) (o.op.operands.toList.map ρ))
    (h : step1 (.rangeMap x) e st = some (v, st')) : Does S fns ρ o σ st w v st' := by
  obtain ⟨t, a, kt, et, ha, hu⟩ := ho
  rw [ha] at hv
  have h1 : VR S σ (x.ev e) (ρ a) := vrs1' hv
  have fresh : σ st.next = none := by
    cases hn : σ st.next with
    | none => rfl
    | some l => exact absurd (hR.lt _ l hn).1 (by omega)
  have go : ∀ {ob : Obj} {y : Go.Obj}, (Go.execOp ρ o).run S.P w = .ok (.value (.pointer (some ⟨w.heap.size, 0, none⟩))) { w with heap := w.heap.push y } → (∀ σ' : Sg, σ.le σ' → ObjR S fns σ' ob ⟨w.heap.size, 0, 0, 0⟩ (some y)) →
      Does S fns ρ o σ st w (.ptr (some (st.next, 0))) (st.new ob) := by
    intro ob y hrun hob
    refine ⟨_, _, σ.put st.next ⟨w.heap.size, 0, 0, 0⟩, .inl hrun, ?_, (hR.new ob).put (by simp [St.new]) fresh y 0 0 0 (hob _ (Sg.put_le fresh)) (fun _ => rfl), (Goes.newOwn σ st w ob fresh).put fresh (Nat.le_refl _) y 0 0 0⟩
    simp only [VR]
    exact ⟨_, rfl, _, Sg.put_same _ _ _, rfl⟩
  simp only [step1] at h
  split at h
  · rename_i hx
    cases h
    rw [hx] at h1; simp only [VR] at h1
    refine go (y := .mapIter none 0 #[] 0) ?_ (fun σ' _ => ⟨none, #[], rfl, rfl, rfl⟩)
    simp only [Go.execOp, ha, Go.Instr.range, Sem.run_bind, run_und hu, Result.andThen_ok, h1, Sem.run_pure, run_new]
  · rename_i m hx
    rw [hx] at h1; simp only [VR] at h1
    obtain ⟨l, hl, e1⟩ := h1
    split at h
    · rename_i es clock hm
      cases h
      obtain ⟨es', hh, hes⟩ := map_rel hR hl hm
      refine go (y := .mapIter (some l.blk) clock #[] clock) ?_ (fun σ' hle => ⟨some l.blk, #[], rfl, rfl, l, hle _ _ hl, rfl⟩)
      simp only [Go.execOp, ha, Go.Instr.range, Sem.run_bind, run_und hu, Result.andThen_ok, e1, run_getObj hh (by simp), Sem.run_pure, run_new]
    · cases h
  · cases h

theorem does_nextStr {x : X} (hR : Rel S fns σ st w) (ho : OpSh S fns o (.nextStr x)) (hv : VRs S σ ((Op.nextStr x).opnds.map (·.ev e)) (o.op.operands.toList.map ρ))
    (h : step1 (.nextStr x) e st = some (v, st')) : Does S fns ρ o σ st w v st' := by
  obtain ⟨a, ha⟩ := ho
  rw [ha] at hv
  have h1 : VR S σ (x.ev e) (ρ a) := vrs1' hv
  simp only [step1] at h
  split at h
  · rename_i r hx
    rw [hx] at h1; simp only [VR] at h1
    obtain ⟨p, e1, l, hl, rfl⟩ := h1
    split at h
    · rename_i s pos hm
      have hl0 : l.off = 0 := hR.zero r _ l hm hl (by simp [NotCells])
      have hh : w.heap[l.blk]? = some (.stringIter ⟨⟨s⟩⟩ pos) := hR.obj r _ l hm hl
      have hsz : (⟨⟨s⟩⟩ : ByteArray).size = s.length := rfl
      have hg := run_getObj (P := S.P) hh (by simp)
      split at h
      · rename_i hlt
        cases hd : Go.Utf8.decode ⟨⟨s⟩⟩ pos with
        | mk c width =>
          rw [hd] at h
          cases h
          obtain ⟨a1, a2, a3⟩ := heap_set (y := Go.Obj.stringIter ⟨⟨s⟩⟩ (pos + width)) hh
          have hso := run_setObj (P := S.P) (y := .stringIter ⟨⟨s⟩⟩ (pos + width)) hh (by simp)
          refine ⟨.tuple #[.bool true, Go.goInt pos, .int .i32 c], _, σ, .inl ?_, by simp only [VR]; exact ⟨_, rfl, .cons (by simp [VR]) (.cons (goInt_rel σ _) (.cons (by simp [VR]) .nil))⟩,
            hR.set hl (by simp [hm]) a1 a2 a3 (fun _ => hl0), .set hl (by simp [hm, Wr]) _ a1 a2 (fun q hq => by rw [hh] at hq; cases hq)⟩
          simp [Go.execOp, ha, Go.Instr.next, e1, hl0, hg, hsz, hlt, hd, hso]
      · rename_i hlt
        cases h
        refine .value hR (u := .tuple #[.bool false]) ?_ (by simp only [VR]; exact ⟨_, rfl, .cons (by simp [VR]) .nil⟩)
        simp [Go.execOp, ha, Go.Instr.next, e1, hl0, hg, hsz, hlt]
    · cases h
  · cases h

end Cub

/- Appending, copying, clearing. -/
namespace Cub
open Go (Value World Addr TypeId FuncId Program Oper Operand Sem Result)
variable {S : Seat} {fns : Nat → Prop} {ρ : Operand → Value} {o : Oper} {σ : Sg} {st st' : St} {w : World} {e : Env} {v : V}

theorem rdN_prefix {f : Nat → Option V} {n k : Nat} : ∀ {off : Nat} {vs : List V}, k ≤ n → rdN f off n = some vs → rdN f off k = some (vs.take k) := by
  induction n generalizing k with
  | zero => intro off vs hk h; have hk0 : k = 0 := (by omega); subst hk0; simp [rdN]
  | succ n ih =>
    intro off vs hk h
    cases k with
    | zero => simp [rdN]
    | succ k =>
      simp only [rdN] at h ⊢
      split at h
      · rename_i v l' h1 h2
        cases h
        rw [h1, ih (by omega) h2]; rfl
      · cases h
theorem loadN_prefix {b off n k : Nat} {vs : List V} (h : loadN st b off n = some vs) (hk : k ≤ n) : loadN st b off k = some (vs.take k) := by
  rcases loadN_cases h with ⟨c, o, hm, hle, rfl⟩ | ⟨f, hm, h⟩
  · rw [loadN_cells hm, if_pos (by omega), List.take_take, Nat.min_eq_left hk]
  · rw [loadN_ro hm]; exact rdN_prefix hk h

theorem run_loadNone {P : Program} (a : Addr) : (Go.loadCells a 0).run P w = .ok #[] w := by
  have := Go.run_loadCells_list (P := P) (w := w) a [] (fun j v hj => by simp at hj)
  simpa using this

theorem first_in (hR : Rel S fns σ st w) {size n b off : Nat} {l : Loc} {c : Nat} {new : List V} (hσ : σ b = some l) (h : loadN st b off (n * size) = some new) :
    new.all V.flat = true ∧
      ∀ k, k ≤ n → ∃ us : List Value, (Go.Builtin.firstCells size k (.slice (some ⟨l.blk, l.off + off, none⟩) n c)).run S.P w = .ok us.toArray w ∧ VRs S σ (new.take (k * size)) us := by
  obtain ⟨_, _, _, hf, _, _⟩ := load_rel hR hσ h
  refine ⟨hf, fun k hk => ?_⟩
  have h2 := loadN_prefix h (Nat.mul_le_mul_right size hk)
  obtain ⟨us, h3, h4, _⟩ := load_rel hR hσ h2
  exact ⟨us, by simpa only [Go.Builtin.firstCells] using h3, h4⟩

/-- What is appended or copied. -/
theorem src_rel (hR : Rel S fns σ st w) {size n : Nat} {x : V} {u : Value} {new : List V} (hx : VR S σ x u) (hl : srcLen x = some n) (h : srcCells st size x = some new) :
    (∀ w', (Go.Builtin.lenOf u).run S.P w' = .ok n w') ∧ new.length = n * size ∧ new.all V.flat = true ∧
      ∀ k, k ≤ n → ∃ us : List Value, (Go.Builtin.firstCells size k u).run S.P w = .ok us.toArray w ∧ VRs S σ (new.take (k * size)) us := by
  cases x with
  | slice a m c =>
    simp only [srcLen, Option.some.injEq] at hl; subst hl
    cases a with
    | none =>
      simp only [VR] at hx
      obtain ⟨rfl, rfl, _⟩ := hx
      simp only [srcCells, Option.some.injEq] at h; subst h
      exact ⟨fun _ => by simp [Go.Builtin.lenOf], by simp, rfl, fun k hk => ⟨[], by simp [Go.Builtin.firstCells], by simp [VRs]⟩⟩
    | some a =>
      obtain ⟨b, off⟩ := a
      simp only [srcCells] at h
      have hlen : new.length = m * size := loadN_length h
      cases c with
      | is c =>
        simp only [VR] at hx
        obtain ⟨a', rfl, l, hσ, rfl⟩ := hx
        obtain ⟨g1, g2⟩ := first_in (c := c) hR hσ h
        exact ⟨fun _ => by simp [Go.Builtin.lenOf], hlen, g1, g2⟩
      | opn sz =>
        simp only [VR] at hx
        obtain ⟨l, hσ, rfl, ⟨c, rfl, _⟩ | ⟨rfl, _, a', rfl⟩⟩ := hx
        · obtain ⟨g1, g2⟩ := first_in (c := c) hR hσ h
          exact ⟨fun _ => by simp [Go.Builtin.lenOf], hlen, g1, g2⟩
        · have : new = [] := List.eq_nil_of_length_eq_zero (by simpa using hlen)
          subst this
          refine ⟨fun _ => by simp [Go.Builtin.lenOf], by simp, rfl, fun k hk => ⟨[], ?_, by simp [VRs]⟩⟩
          have : k = 0 := by omega
          subst this
          simp only [Go.Builtin.firstCells, Nat.zero_mul, run_loadNone]
  | str s =>
    simp only [srcLen, Option.some.injEq] at hl; subst hl
    simp only [srcCells] at h
    split at h
    · rename_i h1
      cases h; subst h1
      simp only [VR] at hx; subst hx
      refine ⟨fun _ => by simp [Go.Builtin.lenOf]; rfl, by simp [ofBytes], by simp [ofBytes, V.flat], fun k hk => ⟨(s.take k).map fun b => (.int .u8 b.toNat : Value), ?_, ?_⟩⟩
      · simp only [Go.Builtin.firstCells, Sem.run_pure]
        congr 1
        apply Array.toList_inj.1
        simp [ByteArray.extract, ByteArray.copySlice]
      · simp only [ofBytes, Nat.mul_one, ← List.map_take]
        exact VRs.map _ fun b _ => by simp only [VR]
    · cases h
  | _ => cases hl

theorem does_copy {size : Nat} {d s : X} (hR : Rel S fns σ st w) (ho : OpSh S fns o (.copy size d s)) (hv : VRs S σ ((Op.copy size d s).opnds.map (·.ev e)) (o.op.operands.toList.map ρ))
    (h : step1 (.copy size d s) e st = some (v, st')) : Does S fns ρ o σ st w v st' := by
  obtain ⟨a, b, t, el, ha, ⟨t0, ht0, hu⟩, ⟨is, his, hiss⟩⟩ := ho
  rw [ha] at hv
  have hv' : VRs S σ [d.ev e, s.ev e] [ρ a, ρ b] := hv
  obtain ⟨h1, h2⟩ := vrs2 hv'
  have hex : ∀ {w2 : World} {u : Value}, (Go.Builtin.copy_ t o.type #[ρ a, ρ b]).run S.P w = .ok u w2 → (Go.execOp ρ o).run S.P w = .ok (.value u) w2 := by
    intro w2 u hd
    simp only [Go.execOp, ha, Go.resolve, Sem.run_bind, Sem.run_pure, Result.andThen_ok, Go.invoke, Go.builtin]
    simp [hd]
  simp only [step1, copyOp] at h
  split at h
  · rename_i base len cap hd
    cases hm : srcLen (s.ev e) with
    | none => simp [hm] at h
    | some m =>
      cases hn : srcCells st size (s.ev e) with
      | none => simp [hm, hn] at h
      | some new =>
        simp only [hm, hn, Option.bind_eq_bind, Option.bind_some] at h
        obtain ⟨g1, g2, g3, g4⟩ := src_rel hR h2 hm hn
        obtain ⟨us, g5, g6⟩ := g4 (min m len) (Nat.min_le_left _ _)
        have hmin : Nat.min m len = min m len := rfl
        rw [hd] at h1
        cases base with
        | none =>
          simp only [Option.some.injEq, Prod.mk.injEq] at h
          obtain ⟨rfl, rfl⟩ := h
          simp only [VR] at h1
          obtain ⟨e1, rfl, _⟩ := h1
          refine .value hR (u := Go.goInt (min m 0 : Nat)) (hex ?_) (goInt_rel σ _)
          simp only [Nat.min_zero] at g5 hmin ⊢
          simp only [Go.Builtin.copy_]
          simp [ht0, run_und hu, e1, g1, run_size his, hiss, hmin, g5]
        | some bo =>
          obtain ⟨b0, off⟩ := bo
          simp only at h
          cases hs : storeN st b0 off (new.take (min m len * size)) with
          | none => simp [hs] at h
          | some st2 =>
            simp only [hs, Option.bind_some, Option.some.injEq, Prod.mk.injEq] at h
            obtain ⟨rfl, rfl⟩ := h
            have main : ∀ {l : Loc} {c' : Nat}, σ b0 = some l → ρ a = .slice (some ⟨l.blk, l.off + off, none⟩) len c' → Does S fns ρ o σ st w (.int .i64 (min m len : Nat)) st2 := by
              intro l c' hσ e1
              obtain ⟨heap, hr, hrel, hgo, _⟩ := store_rel hR hσ hs g6 (all_take g3 _)
              refine ⟨Go.goInt (min m len : Nat), _, σ, .inl (hex ?_), goInt_rel σ _, hrel, hgo⟩
              simp only [Go.Builtin.copy_]
              simp [ht0, run_und hu, e1, g1, run_size his, hiss, hmin, g5, hr]
            cases cap with
            | is c =>
              simp only [VR] at h1
              obtain ⟨a', e1, l, hσ, rfl⟩ := h1
              exact main hσ e1
            | opn sz =>
              simp only [VR] at h1
              obtain ⟨l, hσ, _, ⟨c, e1, _⟩ | ⟨rfl, _, a', e1⟩⟩ := h1
              · exact main hσ e1
              · have hnil : new.take (min m 0 * size) = [] := by simp
                rw [hnil] at hs
                obtain ⟨heap, hr, hrel, hgo, _⟩ := store_rel hR hσ hs VRs.nil rfl
                have hw : { w with heap := heap } = w := by
                  simp only [Go.storeCells, Sem.run_pure, Result.ok.injEq] at hr
                  exact hr.2.symm
                rw [hw] at hrel hgo
                refine ⟨Go.goInt (min m 0 : Nat), _, σ, .inl (hex ?_), goInt_rel σ _, hrel, hgo⟩
                simp only [Nat.min_zero] at g5 hmin g6 ⊢
                have : us = [] := by
                  have := g6.length
                  simp at this; exact this
                subst this
                simp only [Go.Builtin.copy_]
                simp [ht0, run_und hu, e1, g1, run_size his, hiss, hmin, g5, Go.storeCells]
  · cases h

end Cub

/- Appending, clearing. -/
namespace Cub
open Go (Value World Addr TypeId FuncId Program Oper Operand Sem Result)
variable {S : Seat} {fns : Nat → Prop} {ρ : Operand → Value} {o : Oper} {σ : Sg} {st st' : St} {w : World} {e : Env} {v : V}

theorem storeNil {P : Program} (a : Addr) : (Go.storeCells a []).run P w = .ok () w := by simp [Go.storeCells]

theorem does_clear {zs : List V} {x : X} (hR : Rel S fns σ st w) (ho : OpSh S fns o (.clear zs x)) (hv : VRs S σ ((Op.clear zs x).opnds.map (·.ev e)) (o.op.operands.toList.map ρ))
    (h : step1 (.clear zs x) e st = some (v, st')) : Does S fns ρ o σ st w v st' := by
  obtain ⟨a, t, t0, d, ha, ht0, hu, hz, hd⟩ := ho
  rw [ha] at hv
  have h1 : VR S σ (x.ev e) (ρ a) := vrs1' (show VRs S σ [x.ev e] [ρ a] from hv)
  have hex : ∀ {w2 : World} {u : Value}, (Go.Builtin.clear_ t o.type #[ρ a]).run S.P w = .ok u w2 → (Go.execOp ρ o).run S.P w = .ok (.value u) w2 := by
    intro w2 u hd
    simp only [Go.execOp, ha, Go.resolve, Sem.run_bind, Sem.run_pure, Result.andThen_ok, Go.invoke, Go.builtin]
    simp [hd]
  have same : ∀ {u : Value}, ρ a = u → ((∃ c, u = .slice none 0 c) ∨ u = .map none ∨ (∃ x c, u = .slice x 0 c)) → (Go.Builtin.clear_ t o.type #[ρ a]).run S.P w = .ok (.tuple #[]) w := by
    intro u h1 h2
    rw [h1]
    rcases h2 with ⟨c, rfl⟩ | rfl | ⟨x, c, rfl⟩
    · simp [Go.Builtin.clear_, ht0, run_und hu]
    · simp [Go.Builtin.clear_, ht0, run_und hu]
    · cases x <;> simp [Go.Builtin.clear_, ht0, run_und hu]
  simp only [step1] at h
  split at h
  · rename_i hx
    cases h
    rw [hx] at h1; simp only [VR] at h1
    exact .value hR (hex (same h1 (.inr (.inl rfl)))) (vr_undef σ)
  · rename_i n c hx
    cases h
    rw [hx] at h1; simp only [VR] at h1
    exact .value hR (hex (same h1.1 (.inl ⟨_, rfl⟩))) (vr_undef σ)
  · rename_i x c _ hx
    cases h
    rw [hx] at h1
    have : ∃ x' c', ρ a = .slice x' 0 c' := by
      cases x with
      | none => simp only [VR] at h1; exact ⟨_, _, h1.1⟩
      | some x => cases c with
        | is c => simp only [VR] at h1; obtain ⟨a', e, _⟩ := h1; exact ⟨_, _, e⟩
        | opn sz => simp only [VR] at h1; obtain ⟨l, _, _, ⟨c, e, _⟩ | ⟨_, _, a', e⟩⟩ := h1 <;> exact ⟨_, _, e⟩
    obtain ⟨x', c', e1⟩ := this
    exact .value hR (hex (same e1 (.inr (.inr ⟨_, _, rfl⟩)))) (vr_undef σ)
  · rename_i r hx
    rw [hx] at h1; simp only [VR] at h1
    obtain ⟨l, hl, e1⟩ := h1
    split at h
    · rename_i es clock hm
      cases h
      obtain ⟨es', hh, hes⟩ := map_rel hR hl hm
      obtain ⟨g1, g2⟩ := map_set (es2 := []) (clock2 := clock) (es2' := #[]) hR hl hm hh trivial
      refine ⟨.tuple #[], _, σ, .inl (hex ?_), vr_undef σ, g1, g2⟩
      simp [Go.Builtin.clear_, ht0, run_und hu, e1, run_getObj hh (by simp), run_setObj hh (by simp)]
    · cases h
  · rename_i b off n c hne hx
    split at h
    · cases h
    rename_i hzs0
    cases hs : storeN st b off (rep zs n) with
    | none => rw [hs] at h; cases h
    | some s2 =>
      rw [hs] at h
      cases h
      rw [hx] at h1
      have main : ∀ {l : Loc} {c' : Nat}, σ b = some l → ρ a = .slice (some ⟨l.blk, l.off + off, none⟩) n c' → Does S fns ρ o σ st w .undef st' := by
        intro l c' hσ e1
        rcases hd with ⟨el, rfl⟩ | ⟨h0, k, el, rfl⟩
        · obtain ⟨iz, z, hiz, hzz, hzr, hzf⟩ := (hz el rfl).rel (σ := σ)
          have hzs : z.cells.size = zs.length := by have := hzr.length; simpa using this
          have g1 := rep_rel hzr n (n * zs.length) rfl
          obtain ⟨heap, hr, hrel, hgo, _⟩ := store_rel hR hσ hs g1 (rep_flat hzf _)
          refine ⟨.tuple #[], _, σ, .inl (hex ?_), vr_undef σ, hrel, hgo⟩
          have hn0 : n ≠ 0 := hne
          rw [← hzs] at hr
          obtain ⟨n', rfl⟩ := Nat.exists_eq_succ_of_ne_zero hn0
          simp only [Go.Builtin.clear_, e1]
          simp only [Array.toList_map, Array.toList_range] at hr
          simp [ht0, run_und hu, run_zero hiz hzz, Go.Builtin.zeroCells, hr]
        · subst h0; exact absurd rfl hzs0
      cases c with
      | is c =>
        simp only [VR] at h1
        obtain ⟨a', e1, l, hσ, rfl⟩ := h1
        exact main hσ e1
      | opn sz =>
        simp only [VR] at h1
        obtain ⟨l, hσ, _, ⟨c, e1, _⟩ | ⟨rfl, _, a', e1⟩⟩ := h1
        · exact main hσ e1
        · exact absurd rfl hne
  · cases h

theorem growBy_le (need : Nat) : ∀ (r c : Nat), 256 ≤ c → c ≤ 2 * need → Go.Builtin.growBy need r c ≤ 2 * need
  | 0, c, _, h => h
  | r + 1, c, h0, h => by
    unfold Go.Builtin.growBy
    split
    · exact h
    · exact growBy_le need r _ (by omega) (by omega)
theorem nextcap_le {need cap : Nat} (h : cap < need) : Go.Builtin.nextslicecap need cap ≤ 2 * need := by
  unfold Go.Builtin.nextslicecap
  split
  · omega
  · split
    · omega
    · exact growBy_le need 4 cap (by omega) (by omega)

/-- What 'append' is given. -/
structure Given (S : Seat) (w : World) (ts : Array TypeId) (x : Value) (el : TypeId) (size bytes n : Nat) (us : List Value) (z : Array Value) : Prop where
  ty : ∃ t0, ts[0]? = some t0 ∧ Und S t0 (.slice el)
  info : ∃ i zz, S.P.info? el = some i ∧ i.size = size ∧ i.bytes = bytes ∧ i.zero = some zz ∧ zz.cells = z
  zsize : z.size = size
  src : ((match ts[1]? with | some t1 => ∃ d, Und S t1 d ∧ (∀ k, d ≠ .int k) | none => True) ∧ (∀ w', (Go.Builtin.lenOf x).run S.P w' = .ok n w') ∧ (Go.Builtin.firstCells size n x).run S.P w = .ok us.toArray w) ∨
    ((∃ t1 k, ts[1]? = some t1 ∧ Und S t1 (.int k)) ∧ (∃ k, x = .int k n) ∧ n ≤ roof ∧ n * bytes ≤ roof ∧ us = ((Array.range (n * size)).map fun i => z[i % z.size]!).toList)

theorem notInt (d : Go.TypeDesc) (hk : ∀ k, d ≠ .int k) : (match d with | .int _ => true | _ => false) = false := by
  cases d <;> first | rfl | exact absurd rfl (hk _)

theorem run_append_fits {ts : Array TypeId} {ty el : TypeId} {x : Value} {size bytes n sLen sCap : Nat} {us : List Value} {z : Array Value} {base : Option Addr} {w2 : World} (g : Given S w ts x el size bytes n us z)
    (hfit : sLen + n ≤ sCap) (hst : ∀ a, base = some a → (Go.storeCells (a.add (sLen * size)) us).run S.P w = .ok () w2) (hn : base = none → w2 = w) :
    (Go.Builtin.append_ ts ty #[.slice base sLen sCap, x]).run S.P w = .ok (.slice base (sLen + n) sCap) w2 := by
  obtain ⟨t0, ht0, hu⟩ := g.ty
  obtain ⟨i, zz, hi, his, hib, hz, hzz⟩ := g.info
  have hstn : base = none → w2 = w := hn
  rcases g.src with ⟨h1, h2, h3⟩ | ⟨⟨t1, k, h1, h2⟩, ⟨k2, rfl⟩, h4, h5, h6⟩
  · cases ht1 : ts[1]? with
    | none =>
      cases base with
      | none => rw [hn rfl]; simp [Go.Builtin.append_, ht0, run_und hu, run_size hi, his, h2, h3, ht1, hfit]
      | some a => simp [Go.Builtin.append_, ht0, run_und hu, run_size hi, his, h2, h3, ht1, hfit, hst a rfl]
    | some t1 =>
      rw [ht1] at h1
      obtain ⟨d, hd, hk⟩ := h1
      have hnz := notInt d hk
      cases base with
      | none => rw [hn rfl]; simp [Go.Builtin.append_, ht0, run_und hu, run_size hi, his, h2, h3, ht1, hfit, run_und hd, hnz]
      | some a => simp [Go.Builtin.append_, ht0, run_und hu, run_size hi, his, h2, h3, ht1, hfit, hst a rfl, run_und hd, hnz]
  · unfold roof at h4 h5
    have wl := wrap_i64 (n := (n : Int)) (by omega) (by omega)
    have hb : ¬ ((281474976710656 : Int) < (n : Int) * i.bytes) := by
      rw [hib]
      have : ((n * bytes : Nat) : Int) = (n : Int) * bytes := by simp
      omega
    have hz0 : ¬ ((n : Int) < 0) := by omega
    by_cases h0 : n * size = 0
    · have hus : us = [] := by rw [h6, h0]; simp
      subst hus
      cases base with
      | none => rw [hn rfl]; simp [Go.Builtin.append_, ht0, run_und hu, run_size hi, his, h1, run_und h2, Go.asInt, Go.asIntOf, wl, hz0, run_info hi, hb, hfit, h0]
      | some a => simp [Go.Builtin.append_, ht0, run_und hu, run_size hi, his, h1, run_und h2, Go.asInt, Go.asIntOf, wl, hz0, run_info hi, hb, hfit, h0, hst a rfl]
    · have hzc : (Go.Builtin.zeroCells z n).toList = us := by rw [h6, Go.Builtin.zeroCells, g.zsize]
      cases base with
      | none => rw [hn rfl]; simp [Go.Builtin.append_, ht0, run_und hu, run_size hi, his, h1, run_und h2, Go.asInt, Go.asIntOf, wl, hz0, run_info hi, hb, hfit, h0, run_zero hi hz]
      | some a => simp [Go.Builtin.append_, ht0, run_und hu, run_size hi, his, h1, run_und h2, Go.asInt, Go.asIntOf, wl, hz0, run_info hi, hb, hfit, h0, run_zero hi hz, hzz, hzc, hst a rfl]

theorem run_append_grow {ts : Array TypeId} {ty el : TypeId} {x : Value} {size bytes n sLen sCap : Nat} {us old : List Value} {z : Array Value} {base : Option Addr} (g : Given S w.drew ts x el size bytes n us z)
    (hfit : ¬ sLen + n ≤ sCap) (hb : (sLen + n) * bytes ≤ roof) (hr : sLen + n ≤ roof) (hold : (Go.Builtin.firstCells size sLen (.slice base sLen sCap)).run S.P w.drew = .ok old.toArray w.drew)
    (hol : old.length = sLen * size) (hnl : us.length = n * size) :
    ∃ (q : Nat) (arr : Array Value) (rest : List Value), rest.length = q * size ∧ arr.toList = old ++ us ++ rest ∧ (Go.Builtin.append_ ts ty #[.slice base sLen sCap, x]).run S.P w =
      .ok (.slice (some ⟨w.heap.size, 0, none⟩) (sLen + n) (sLen + n + q)) (w.drew.alloc (.cells arr el)) := by
  obtain ⟨t0, ht0, hu⟩ := g.ty
  obtain ⟨i, zz, hi, his, hib, hz, hzz⟩ := g.info
  have hcapb : ¬ (281474976710656 < Go.Builtin.nextslicecap (sLen + n) sCap * i.bytes) := by
    have := nextcap_le (show sCap < sLen + n by omega)
    have h2 : Go.Builtin.nextslicecap (sLen + n) sCap * i.bytes ≤ 2 * (sLen + n) * bytes := by rw [hib]; exact Nat.mul_le_mul_right _ this
    unfold roof at hb
    have : 2 * (sLen + n) * bytes = 2 * ((sLen + n) * bytes) := Nat.mul_assoc _ _ _
    omega
  have hmax : ¬ ((9223372036854775807 : Int) < (sLen : Int) + (n : Int)) := by
    unfold roof at hr
    omega
  have hfo : (Go.Question.appendCap (sLen + n) sCap el).forced = false := rfl
  have hcut : (Go.Question.appendCap (sLen + n) sCap el).cut (w.tape w.drawn (Go.Question.appendCap (sLen + n) sCap el)) = sLen + n + w.tape w.drawn (.appendCap (sLen + n) sCap el) % (2 ^ 63 - (sLen + n)) := rfl
  generalize w.tape w.drawn (.appendCap (sLen + n) sCap el) % (2 ^ 63 - (sLen + n)) = q at hcut
  have hask : ∀ (k : Nat) (w : World), (Go.askRoom k).run S.P w = .ok () w := by
    intro k w; unfold Go.askRoom; rw [Sem.run_ite]; split <;> rfl
  refine ⟨q, old.toArray ++ (us.toArray ++ Go.Builtin.zeroCells z q), (Go.Builtin.zeroCells z q).toList, by simp [Go.Builtin.zeroCells, g.zsize], by simp, ?_⟩
  have hsub : sLen + n + q - (sLen + n) = q := by omega
  rcases g.src with ⟨h1, h2, h3⟩ | ⟨⟨t1, k, h1, h2⟩, ⟨k2, rfl⟩, h4, h5, h6⟩
  · cases ht1 : ts[1]? with
    | none =>
      simp [Go.Builtin.append_, ht0, run_und hu, run_size hi, his, h2, ht1, hfit, run_info hi, hmax, hcapb, hfo, hcut, hask, hold, h3, run_zero hi hz, hzz, hsub, run_newRow]
    | some t1 =>
      rw [ht1] at h1
      obtain ⟨d, hd, hk⟩ := h1
      have hnz := notInt d hk
      simp [Go.Builtin.append_, ht0, run_und hu, run_size hi, his, h2, ht1, hfit, run_info hi, hmax, hcapb, hfo, hcut, hask, hold, h3, run_zero hi hz, hzz, hsub, run_newRow, run_und hd, hnz]
  · unfold roof at h4 h5
    have wl := wrap_i64 (n := (n : Int)) (by omega) (by omega)
    have hb : ¬ ((281474976710656 : Int) < (n : Int) * i.bytes) := by
      rw [hib]
      have : ((n * bytes : Nat) : Int) = (n : Int) * bytes := by simp
      omega
    have hz0 : ¬ ((n : Int) < 0) := by omega
    by_cases h0 : n * size = 0
    · have hus : us = [] := by rw [h6, h0]; simp
      subst hus
      simp [Go.Builtin.append_, ht0, run_und hu, run_size hi, his, h1, run_und h2, Go.asInt, Go.asIntOf, wl, hz0, run_info hi, hb, hfit, h0, hmax, hcapb, hfo, hcut, hask, hold, run_zero hi hz, hzz, hsub, run_newRow]
    · have hzc : Go.Builtin.zeroCells z n = us.toArray := by rw [h6, Go.Builtin.zeroCells, g.zsize]
      simp [Go.Builtin.append_, ht0, run_und hu, run_size hi, his, h1, run_und h2, Go.asInt, Go.asIntOf, wl, hz0, run_info hi, hb, hfit, h0, hmax, hcapb, hfo, hcut, hask, hold, run_zero hi hz, hzz, hzc, hsub, run_newRow]

theorem Goes.drop {σ : Sg} {st : St} {w : World} {b : Nat} {l : Loc} (h : σ b = some l) (hw : Wr (st.mem b)) : Goes σ st w σ (st.set b none) w where
  le := Sg.le_refl σ
  new i l h h' := by rw [h] at h'; cases h'
  ro i l _ hn := by
    simp only [St.set]
    rw [if_neg (fun e2 => by subst e2; exact hn hw)]
  un i hi e := by
    simp only [St.set]
    rw [if_neg (fun e2 => by subst e2; rw [h] at e; cases e)]
  next := Nat.le_refl _
  size := Nat.le_refl _
  keep _ _ _ := rfl
  loop b r h := ⟨r, h, rfl⟩
  os := rfl
  tape := rfl
  output := rfl

/-- A slice that went into a new block. -/
theorem grow_rel {st1 : St} (hR : Rel S fns σ st1 w) (hg : Goes σ st w σ st1 w) (hnx : st1.next = st.next) {old new : List V} {olds us rest : List Value} {arr : Array Value} {el : TypeId} {size need q : Nat}
    (harr : arr.toList = olds ++ us ++ rest) (ho : VRs S σ old olds) (hn : VRs S σ new us) (fo : old.all V.flat = true) (fn : new.all V.flat = true) (hl : old.length + new.length = need * size) (hq : rest.length = q * size) :
    ∃ σ', VR S σ' (.slice (some (st.next, 0)) need (.opn size)) (.slice (some ⟨w.heap.size, 0, none⟩) need (need + q)) ∧
      Rel S fns σ' (st1.new (.cells (old ++ new) (some size))) (w.drew.alloc (.cells arr el)) ∧ Goes σ st w σ' (st1.new (.cells (old ++ new) (some size))) (w.drew.alloc (.cells arr el)) := by
  have fresh : σ st1.next = none := by
    cases hn : σ st1.next with
    | none => rfl
    | some l => exact absurd (hR.lt _ l hn).1 (by omega)
  have hsz : arr.size = (need + q) * size := by
    have h1 : arr.toList.length = (olds ++ us ++ rest).length := by rw [harr]
    have := ho.length; have := hn.length
    simp only [Array.length_toList, List.length_append] at h1
    rw [Nat.add_mul]; omega
  have hob : ∀ σ', σ.le σ' → ObjR S fns σ' (.cells (old ++ new) (some size)) ⟨w.heap.size, 0, size, (need + q) * size⟩ (some (.cells arr el)) := by
    intro σ' hle
    refine ⟨arr, el, 0, 0, rfl, by rw [List.all_append, fo, fn]; rfl, ?_, ?_, .inr ⟨rfl, by simp [hsz]⟩, .inr rfl⟩
    · simp only [List.length_append, hl, hsz, Nat.zero_add]
      exact Nat.mul_le_mul_right _ (by omega)
    · rw [List.drop_zero, harr]
      have hll : (old ++ new).length = (olds ++ us).length := by simp [ho.length, hn.length]
      rw [hll, List.take_left']
      · exact (ho.append hn).le hle
      · rfl
  refine ⟨σ.put st1.next ⟨w.heap.size, 0, size, (need + q) * size⟩, ?_, ?_, ?_⟩
  · simp only [VR]
    rw [← hnx]
    exact ⟨_, Sg.put_same _ _ _, rfl, .inl ⟨need + q, rfl, by simp, by omega⟩⟩
  · have := ((hR.drawn (w.drawn + 1)).new (.cells (old ++ new) (some size))).put (i := st1.next) (by simp [St.new]) fresh (.cells arr el) 0 size ((need + q) * size) (hob _ (Sg.put_le fresh)) (fun h => absurd rfl (h.1 _ _))
    exact this
  · have h1 := hg.trans (Goes.newOwn σ st1 w (.cells (old ++ new) (some size)) fresh)
    have h2 := (h1.drawn (w.drawn + 1)).put fresh (by omega) (.cells arr el) 0 size ((need + q) * size)
    exact h2

/-- A slice that stays where it is, in a block that had room; by a new number. -/
theorem stay_rel (hR : Rel S fns σ st w) {b off len n size cap : Nat} {l : Loc} {c new : List V} {us : List Value} (hσ : σ b = some l) (hm : st.mem b = some (.cells c (some size))) (hsz : l.sz = size) (hcap : off + cap * size = l.tot)
    (hfit : len + n ≤ cap) (hkn : off + len * size ≤ c.length) (hn : VRs S σ new us) (fn : new.all V.flat = true) (hnl : new.length = n * size) (hpos : 0 < size) :
    ∃ σ' w', VR S σ' (.slice (some (st.next, 0)) (len + n) (.opn size)) (.slice (some ⟨l.blk, l.off + off, none⟩) (len + n) cap) ∧
      (Go.storeCells (⟨l.blk, l.off + off + len * size, none⟩) us).run S.P w = .ok () w' ∧
      Rel S fns σ' ((st.set b none).new (.cells ((c.drop off).take (len * size) ++ new) (some size))) w' ∧ Goes σ st w σ' ((st.set b none).new (.cells ((c.drop off).take (len * size) ++ new) (some size))) w' := by
  have fresh : σ st.next = none := by
    cases hn : σ st.next with
    | none => rfl
    | some l => exact absurd (hR.lt _ l hn).1 (by omega)
  obtain ⟨arr, ty, lo, hi, he, hcf, hs, hcv, e12, hfz⟩ := hR.obj b _ l hm hσ
  obtain ⟨e1, e2⟩ : size = l.sz ∧ arr.size = l.off + l.tot := e12.resolve_left (by omega)
  have hul := hn.length
  have hmul : (len + n) * size = len * size + n * size := Nat.add_mul _ _ _
  have hmul2 : (len + n) * size ≤ cap * size := Nat.mul_le_mul_right _ hfit
  have hus : ∀ u ∈ us, (∀ c, u ≠ .agg c) ∧ (∀ c, u ≠ .tuple c) := by
    intro u hu
    obtain ⟨i, hi⟩ := List.mem_iff_getElem?.1 hu
    have hlt : i < new.length := by rw [← hul]; exact (List.getElem?_eq_some_iff.1 hi).1
    obtain ⟨u', hu', hr⟩ := hn.get i _ (List.getElem?_eq_getElem hlt)
    rw [hi] at hu'; cases hu'
    exact hr.flat (List.all_eq_true.1 fn _ (List.getElem_mem hlt))
  obtain ⟨heap, hr, hsz2, hkeep, hx⟩ := run_storeCells_gen S.P l.blk (l.off + off + len * size) ty lo hi us 0 arr w he (by omega) (hfz.imp id (fun h => by omega)) hus
  have hle := Sg.put_le (σ := σ) (l := ⟨l.blk, l.off + off, size, l.tot - off⟩) fresh
  have hlb := (hR.lt b l hσ).2
  refine ⟨σ.put st.next ⟨l.blk, l.off + off, size, l.tot - off⟩, { w with heap := heap }, ?_, hr, ?_, ?_⟩
  · simp only [VR]
    exact ⟨_, Sg.put_same _ _ _, rfl, .inl ⟨cap, by simp, by simp; omega, hfit⟩⟩
  · have hold : ∀ i o' m, (st.set b none).mem i = some o' → σ i = some m → ObjR S fns σ o' m heap[m.blk]? := by
      intro i o' m h1 h2
      simp only [St.set] at h1
      by_cases hj : i = b
      · rw [if_pos hj] at h1; cases h1
      · rw [if_neg hj] at h1
        rw [hkeep _ (fun hb => hj (hR.inj i b m l (by simp [h1]) (by simp [hm]) h2 hσ hb))]
        exact hR.obj i o' m h1 h2
    have hnew : ObjR S fns σ (.cells ((c.drop off).take (len * size) ++ new) (some size)) ⟨l.blk, l.off + off, size, l.tot - off⟩ heap[l.blk]? := by
      have hasz : ((List.take (l.off + off + len * size + 0) arr.toList ++ us ++ List.drop (l.off + off + len * size + 0 + us.length) arr.toList).toArray).size = arr.size := by simp; omega
      have hcl : ((c.drop off).take (len * size)).length = len * size := by simp; omega
      refine ⟨_, ty, lo, hi, hx, ?_, ?_, ?_, .inr ⟨rfl, ?_⟩, ?_⟩
      · rw [List.all_append, fn, all_take (all_drop hcf _)]; rfl
      · rw [hasz, List.length_append, hcl]; simp only; omega
      · have hall := ((hcv.drop off).take (len * size)).append hn
        refine cast (congrArg (VRs S σ _) ?_) hall
        have hB : l.off + off + len * size ≤ arr.toList.length := by simp; omega
        have e3 : List.take (len * size) (List.drop off (List.take c.length (List.drop l.off arr.toList))) = List.take (len * size) (List.drop (l.off + off) arr.toList) := by
          rw [List.drop_take, List.take_take, Nat.min_eq_left (by omega), List.drop_drop]
        have e4 : List.drop (l.off + off) (List.take (l.off + off + len * size) arr.toList) = List.take (len * size) (List.drop (l.off + off) arr.toList) := by
          rw [List.drop_take]; congr 1; omega
        have e5 : (List.take (len * size) (List.drop (l.off + off) arr.toList)).length = len * size := by simp; simp at hB; omega
        rw [List.length_append, hcl, e3]
        simp only [Nat.add_zero]
        rw [List.append_assoc, List.drop_append_of_le_length (by simp; simp at hB; omega), e4, ← List.append_assoc, List.take_left' (by rw [List.length_append, e5, hul])]
      · rw [hasz]; simp only; omega
      · rw [hasz]; exact hfz
    have hmem : ∀ i, ((st.set b none).new (.cells ((c.drop off).take (len * size) ++ new) (some size))).mem i = if i = st.next then some (.cells ((c.drop off).take (len * size) ++ new) (some size)) else if i = b then none else st.mem i := fun i => rfl
    have hset : ∀ i, (st.set b none).mem i = if i = b then none else st.mem i := fun i => rfl
    constructor
    · intro i g e; exact hle _ _ (hR.glob i g e)
    · intro i o' m h1 h2
      rw [hmem] at h1
      show ObjR S fns _ o' m heap[m.blk]?
      unfold Sg.put at h2
      by_cases hi : i = st.next
      · rw [if_pos hi] at h2; cases h2
        rw [if_pos hi] at h1; cases h1
        exact hnew.le hle
      · rw [if_neg hi] at h2
        rw [if_neg hi] at h1
        exact (hold i o' m (by rw [hset]; exact h1) h2).le hle
    · intro i j m1 m2 h1 h2 e1 e2 hb
      rw [hmem] at h1 h2
      unfold Sg.put at e1 e2
      by_cases hi : i = st.next <;> by_cases hj : j = st.next
      · rw [hi, hj]
      · exfalso
        rw [if_pos hi] at e1; rw [if_neg hj] at e2; cases e1
        rw [if_neg hj] at h2
        by_cases hjb : j = b
        · rw [if_pos hjb] at h2; exact h2 rfl
        · rw [if_neg hjb] at h2
          exact hjb (hR.inj j b m2 l h2 (by simp [hm]) e2 hσ hb.symm)
      · exfalso
        rw [if_neg hi] at e1; rw [if_pos hj] at e2; cases e2
        rw [if_neg hi] at h1
        by_cases hib : i = b
        · rw [if_pos hib] at h1; exact h1 rfl
        · rw [if_neg hib] at h1
          exact hib (hR.inj i b m1 l h1 (by simp [hm]) e1 hσ hb)
      · rw [if_neg hi] at e1; rw [if_neg hj] at e2
        rw [if_neg hi] at h1
        rw [if_neg hj] at h2
        refine hR.inj i j m1 m2 ?_ ?_ e1 e2 hb
        · by_cases h : i = b
          · rw [if_pos h] at h1; exact absurd rfl h1
          · rwa [if_neg h] at h1
        · by_cases h : j = b
          · rw [if_pos h] at h2; exact absurd rfl h2
          · rwa [if_neg h] at h2
    · intro i m e
      unfold Sg.put at e
      by_cases hi : i = st.next
      · rw [if_pos hi] at e; cases e
        exact ⟨show i < st.next + 1 by omega, by simp only; omega⟩
      · rw [if_neg hi] at e
        have := hR.lt i m e
        exact ⟨show i < st.next + 1 by omega, by simp only; omega⟩
    · intro i h1
      rw [hmem] at h1
      show i < st.next + 1
      by_cases hi : i = st.next
      · omega
      · rw [if_neg hi] at h1
        by_cases hib : i = b
        · rw [if_pos hib] at h1; exact absurd rfl h1
        · rw [if_neg hib] at h1; have := hR.mem i h1; omega
    · intro i o' m h1 h2 h3
      rw [hmem] at h1
      unfold Sg.put at h2
      by_cases hi : i = st.next
      · rw [if_pos hi] at h1; cases h1
        exact absurd rfl (h3.1 _ _)
      · rw [if_neg hi] at h1 h2
        by_cases hib : i = b
        · rw [if_pos hib] at h1; cases h1
        · rw [if_neg hib] at h1
          exact hR.zero i o' m h1 h2 h3
  · constructor
    · exact hle
    · intro i m h1 h2
      unfold Sg.put at h2
      by_cases hi : i = st.next
      · rw [if_pos hi] at h2; cases h2
        exact ⟨by omega, .inr ⟨b, l, hσ, rfl, by simp [hm, Wr]⟩⟩
      · rw [if_neg hi, h1] at h2; cases h2
    · intro i m h1 h2
      show (if i = st.next then _ else if i = b then none else st.mem i) = _
      rw [if_neg (fun h => by have := (hR.lt i m h1).1; omega), if_neg (fun h => by subst h; exact h2 (by simp [hm, Wr]))]
    · intro i h1 h2
      show (if i = st.next then _ else if i = b then none else st.mem i) = _
      rw [if_neg (by omega), if_neg (fun h => by subst h; rw [hσ] at h2; cases h2)]
    · simp [St.new, St.set]
    · simp only; omega
    · intro k hk hno
      exact hkeep k (fun h => hno b l hσ (by simp [hm, Wr]) h.symm)
    · intro k r hk
      by_cases hb : k = l.blk
      · subst hb; rw [he] at hk; cases hk
      · exact ⟨r, (hkeep k hb).trans hk, rfl⟩
    · rfl
    · rfl
    · rfl


theorem given_of {size bytes : Nat} {zs : List V} {mk : Bool} {s x : X} {b : Operand} {t : Array TypeId} {el : TypeId} (hu : ∃ t0, t[0]? = some t0 ∧ Und S t0 (.slice el)) (hs : SizeM S el size) (hb : BytesM S el bytes) (hz : ZeroM S el zs) (hzl : zs.length = size)
    (hm : match t[1]? with | some t1 => ∃ d, Und S t1 d ∧ (mk = true ↔ ∃ k, d = .int k) | none => mk = false) (hx : VR S σ (x.ev e) (ρ b)) (hR : Rel S fns σ st w)
    {v : V} (h : appendOp st size bytes zs mk (s.ev e) (x.ev e) = some (v, st')) :
    ∃ n new, appendV st size bytes (s.ev e) n new = some (v, st') ∧ new.all V.flat = true ∧ new.length = n * size ∧ ∀ w', Rel S fns σ st w' → ∃ us z, Given S w' t (ρ b) el size bytes n us z ∧ VRs S σ new us := by
  obtain ⟨iz, z, hiz, hzz, hzr, hzf⟩ := hz.rel (σ := σ)
  obtain ⟨i1, hi1, hi1s⟩ := hs
  obtain ⟨i2, hi2, hi2s⟩ := hb
  rw [hiz] at hi1 hi2; cases hi1; cases hi2
  have hzs : z.cells.size = zs.length := by have := hzr.length; simpa using this
  have hinfo : ∃ i zz, S.P.info? el = some i ∧ i.size = size ∧ i.bytes = bytes ∧ i.zero = some zz ∧ zz.cells = z.cells := ⟨iz, z, hiz, hi1s, hi2s, hzz, rfl⟩
  unfold appendOp at h
  cases mk with
  | true =>
    simp only [if_true] at h
    split at h
    · rename_i k i hi
      split at h
      · rename_i hc
        refine ⟨i.toNat, rep zs i.toNat, h, rep_flat hzf _, by rw [rep_length, hzl], fun w' hR => ⟨_, z.cells, ⟨hu, hinfo, hzs.trans hzl, .inr ⟨?_, ?_, ?_, ?_, rfl⟩⟩, ?_⟩⟩
        · cases ht : t[1]? with
          | none => rw [ht] at hm; cases hm
          | some t1 =>
            rw [ht] at hm
            obtain ⟨d, hd, hk⟩ := hm
            obtain ⟨k, rfl⟩ := hk.1 rfl
            exact ⟨t1, k, rfl, hd⟩
        · rw [hi] at hx; simp only [VR] at hx
          exact ⟨k, by rw [hx]; congr 1; omega⟩
        · omega
        · have : ((i.toNat * bytes : Nat) : Int) = i * bytes := by
            rw [Int.natCast_mul]; congr 1; omega
          omega
        · exact rep_rel hzr _ _ (by rw [hzl])
      · cases h
    · cases h
  | false =>
    simp only [Bool.false_eq_true, if_false] at h
    cases hn : srcLen (x.ev e) with
    | none => simp [hn] at h
    | some n =>
      cases hc : srcCells st size (x.ev e) with
      | none => simp [hn, hc] at h
      | some new =>
        simp only [hn, hc, Option.bind_eq_bind, Option.bind_some] at h
        refine ⟨n, new, h, (src_rel hR hx hn hc).2.2.1, (src_rel hR hx hn hc).2.1, fun w' hR => ?_⟩
        · obtain ⟨g1, g2, g3, g4⟩ := src_rel hR hx hn hc
          obtain ⟨us, g5, g6⟩ := g4 n (Nat.le_refl _)
          rw [List.take_of_length_le (by omega)] at g6
          refine ⟨us, z.cells, ⟨hu, hinfo, hzs.trans hzl, .inl ⟨?_, ?_, g5⟩⟩, g6⟩
          · cases ht : t[1]? with
            | none => trivial
            | some t1 =>
              rw [ht] at hm
              obtain ⟨d, hd, hk⟩ := hm
              exact ⟨d, hd, fun k e => by cases hk.2 ⟨k, e⟩⟩
          · exact g1


theorem does_append {size bytes : Nat} {zs : List V} {mk : Bool} {s x : X} (hR : Rel S fns σ st w) (ho : OpSh S fns o (.append size bytes zs mk s x)) (hv : VRs S σ ((Op.append size bytes zs mk s x).opnds.map (·.ev e)) (o.op.operands.toList.map ρ))
    (h : step1 (.append size bytes zs mk s x) e st = some (v, st')) : Does S fns ρ o σ st w v st' := by
  obtain ⟨a, b, t, el, ha, hu, hs, hb, hz, hzl, hpos, hm⟩ := ho
  rw [ha] at hv
  have hv' : VRs S σ [s.ev e, x.ev e] [ρ a, ρ b] := hv
  obtain ⟨h1, h2⟩ := vrs2 hv'
  simp only [step1] at h
  obtain ⟨n, new, h, fn, nl, giv⟩ := given_of (w := w) hu hs hb hz hzl hm h2 hR h
  have hex : ∀ {w2 : World} {u : Value}, (Go.Builtin.append_ t o.type #[ρ a, ρ b]).run S.P w = .ok u w2 → (Go.execOp ρ o).run S.P w = .ok (.value u) w2 := by
    intro w2 u hd
    simp only [Go.execOp, ha, Go.resolve, Sem.run_bind, Sem.run_pure, Result.andThen_ok, Go.invoke, Go.builtin]
    simp [hd]
  obtain ⟨us, z, gw, hus⟩ := giv w hR
  obtain ⟨us2, z2, gw2, hus2⟩ := giv w.drew (hR.drawn _)
  have put : ∀ {sv : V} {off : Nat} {l : Loc} {len cap c0 : Nat} {b0 : Nat} {rv : V}, σ b0 = some l → ρ a = .slice (some ⟨l.blk, l.off + off, none⟩) len cap → len + n ≤ cap → ∀ {st2 : St}, storeN st b0 (off + len * size) new = some st2 →
      VR S σ rv (.slice (some ⟨l.blk, l.off + off, none⟩) (len + n) cap) → Does S fns ρ o σ st w rv st2 := by
    intro sv off l len cap c0 b0 rv hσ e1 hfit st2 hst hrv
    obtain ⟨heap, hr, hrel, hgo, _⟩ := store_rel hR hσ hst hus fn
    refine ⟨_, _, σ, .inl (hex (u := .slice (some ⟨l.blk, l.off + off, none⟩) (len + n) cap) (w2 := { w with heap := heap }) ?_), hrv, hrel, hgo⟩
    rw [e1]
    refine run_append_fits gw hfit (fun a0 ha0 => ?_) (fun h => by cases h)
    cases ha0
    rw [addr_add, Nat.add_assoc]
    exact hr
  have grow : ∀ {base : Option Addr} {len cap : Nat} {old : List V} {olds : List Value} {st1 : St}, Rel S fns σ st1 w → Goes σ st w σ st1 w → st1.next = st.next → ρ a = .slice base len cap → ¬ len + n ≤ cap → (len + n) * bytes ≤ roof ∧ len + n ≤ roof →
      (Go.Builtin.firstCells size len (ρ a)).run S.P w.drew = .ok olds.toArray w.drew → VRs S σ old olds → old.all V.flat = true → old.length = len * size →
      Does S fns ρ o σ st w (.slice (some (st.next, 0)) (len + n) (.opn size)) (st1.new (.cells (old ++ new) (some size))) := by
    intro base len cap old olds st1 hR1 hg hnx e1 hfit hroof hold ho fo hlo
    rw [e1] at hold
    obtain ⟨q, arr, rest, g1, g2, g3⟩ := run_append_grow (ty := o.type) gw2 hfit hroof.1 hroof.2 hold (by rw [ho.length, hlo]) (by rw [hus2.length, nl])
    obtain ⟨σ', g4, g5, g6⟩ := grow_rel (el := el) (need := len + n) hR1 hg hnx g2 ho hus2 fo fn (by rw [hlo, nl, Nat.add_mul]) g1
    refine ⟨_, _, σ', .inl (hex ?_), g4, g5, g6⟩
    rw [e1]; exact g3
  unfold appendV at h
  split at h
  · rename_i h0
    subst h0
    split at h
    · rename_i hf
      cases h
      have hnil : ∀ {base : Option Addr} {len cap : Nat}, ρ a = .slice base len cap → len ≤ cap → Does S fns ρ o σ st w (s.ev e) st := by
        intro base len cap e1 hle
        have hz : us = [] := by
          apply List.eq_nil_of_length_eq_zero
          rw [hus.length, nl, Nat.zero_mul]
        subst hz
        refine .value hR (u := ρ a) (hex ?_) h1
        rw [e1]
        exact run_append_fits gw (by omega) (fun _ _ => storeNil _) (fun _ => rfl)
      generalize s.ev e = sv at h1 hf hnil
      cases sv with
      | slice base len cap =>
        cases base with
        | none => simp only [VR] at h1; exact hnil h1.1 (Nat.le_refl _)
        | some a0 => cases cap with
          | is c =>
            simp only [VR] at h1
            obtain ⟨a', e1, _⟩ := h1
            simp only [fits, decide_eq_true_eq] at hf
            exact hnil e1 hf
          | opn sz =>
            simp only [VR] at h1
            obtain ⟨l, _, _, ⟨c, e1, _, hle⟩ | ⟨_, _, a', e1⟩⟩ := h1
            · exact hnil e1 hle
            · exact hnil e1 (Nat.le_refl _)
      | _ => cases hf
    · cases h
  · rename_i h0
    split at h
    · cases h
    rename_i hnl
    have hnl : new.length = n * size := Decidable.not_not.1 hnl
    split at h
    · rename_i base len cap hse
      rw [hse] at h1
      split at h
      · rename_i hfit
        split at h
        · rename_i b0 off
          cases hst : storeN st b0 (off + len * size) new with
          | none => simp [hst] at h
          | some st2 =>
            simp only [hst, Option.bind_eq_bind, Option.bind_some, Option.some.injEq, Prod.mk.injEq] at h
            obtain ⟨rfl, rfl⟩ := h
            simp only [VR] at h1
            obtain ⟨a', e1, l, hσ, rfl⟩ := h1
            exact put (sv := .undef) (c0 := 0) hσ e1 hfit hst (by simp only [VR]; exact ⟨_, rfl, l, hσ, rfl⟩)
        · exfalso
          simp only [VR] at h1
          obtain ⟨_, rfl, hc⟩ := h1
          cases hc
          omega
      · rename_i hfit
        split at h
        · rename_i hroof
          rw [hse] at h
          cases hold : srcCells st size (.slice base len (.is cap)) with
          | none => simp [hold] at h
          | some old =>
            simp only [hold, Option.bind_eq_bind, Option.bind_some, Option.some.injEq, Prod.mk.injEq] at h
            obtain ⟨rfl, rfl⟩ := h
            have hu : ∃ base, ρ a = .slice base len cap := by
              cases base with
              | none => simp only [VR] at h1; obtain ⟨e1, rfl, e2⟩ := h1; cases e2; exact ⟨_, e1⟩
              | some a0 => simp only [VR] at h1; obtain ⟨a', e1, _⟩ := h1; exact ⟨_, e1⟩
            obtain ⟨base', e1⟩ := hu
            obtain ⟨_, g2, g3, g4⟩ := src_rel (hR.drawn (w.drawn + 1)) h1 rfl hold
            obtain ⟨olds, g5, g6⟩ := g4 len (Nat.le_refl _)
            rw [List.take_of_length_le (by omega)] at g6
            exact grow hR (Goes.refl _ _ _) rfl e1 hfit hroof g5 g6 g3 g2
        · cases h
    · rename_i b0 off len sz hse
      rw [hse] at h1
      split at h
      · cases h
      rename_i hsz
      have hsz : sz = size := Decidable.not_not.1 hsz
      subst hsz
      split at h
      · rename_i c o' hm
        simp only [VR] at h1
        obtain ⟨l, hσ, hlsz, hcase⟩ := h1
        obtain ⟨arr, ty, lo, hi, he, hcf, hs0, hcv, hk12, hfz⟩ := hR.obj b0 _ l hm hσ
        obtain ⟨hk1, hk2⟩ : o' + 1 = l.sz ∧ arr.size = l.off + l.tot := hk12.resolve_left (by omega)
        have hnpos : 0 < n * sz := Nat.mul_pos (Nat.pos_of_ne_zero h0) hpos
        have hmul : (len + n) * sz = len * sz + n * sz := Nat.add_mul _ _ _
        split at h
        · rename_i hin
          cases hst : storeN st b0 (off + len * sz) new with
          | none => simp [hst] at h
          | some st2 =>
            simp only [hst, Option.bind_eq_bind, Option.bind_some, Option.some.injEq, Prod.mk.injEq] at h
            obtain ⟨rfl, rfl⟩ := h
            rcases hcase with ⟨cap, e1, htot, hle⟩ | ⟨rfl, htot, _⟩
            · have hfit : len + n ≤ cap := by
                refine Nat.le_of_mul_le_mul_right ?_ hpos
                rw [hlsz] at htot
                omega
              exact put (sv := .undef) (c0 := 0) hσ e1 hfit hst (by simp only [VR]; exact ⟨l, hσ, hlsz, .inl ⟨cap, rfl, htot, hfit⟩⟩)
            · exfalso
              omega
        · rename_i hin
          split at h
          · rename_i hc
            obtain ⟨hc1, hc2, hc3, _⟩ := hc
            simp only [Option.some.injEq, Prod.mk.injEq] at h
            obtain ⟨rfl, rfl⟩ := h
            have hdrop : Rel S fns σ (st.set b0 none) w := hR.drop b0
            have hcl : ((c.drop off).take (len * sz)).length = len * sz := by simp; omega
            rcases hcase with ⟨cap, e1, htot, hle⟩ | ⟨rfl, htot, a', e1⟩
            · by_cases hfit : len + n ≤ cap
              · have ho' : o' + 1 = sz := by rw [hk1, hlsz]
                rw [show o'.succ = sz from ho'] at hm
                obtain ⟨σ', w', g1, g2, g3, g4⟩ := stay_rel hR hσ hm hlsz (by rw [hlsz] at htot; exact htot) hfit hc1 hus fn nl hpos
                refine ⟨_, _, σ', .inl (hex (u := .slice (some ⟨l.blk, l.off + off, none⟩) (len + n) cap) (w2 := w') ?_), g1, g3, g4⟩
                rw [e1]
                refine run_append_fits gw hfit (fun a0 ha0 => ?_) (fun h => by cases h)
                cases ha0
                rw [addr_add]
                exact g2
              · have hload : loadN st b0 off (len * sz) = some ((c.drop off).take (len * sz)) := by
                  rw [loadN_cells hm, if_pos hc1]
                obtain ⟨g3, g4⟩ := first_in (c := cap) (hR.drawn (w.drawn + 1)) hσ hload
                obtain ⟨olds, g5, g6⟩ := g4 len (Nat.le_refl _)
                rw [List.take_of_length_le (by omega)] at g6
                exact grow hdrop (Goes.drop hσ (by simp [hm, Wr])) rfl e1 hfit ⟨hc2, hc3⟩ (by rw [e1]; exact g5) g6 g3 hcl
            · refine grow (base := some a') (len := 0) (cap := 0) (olds := []) hdrop (Goes.drop hσ (by simp [hm, Wr])) rfl e1 (by omega) ⟨hc2, hc3⟩ ?_ (by simp [VRs]) (by simp) (by simp)
              rw [e1]; simp only [Go.Builtin.firstCells, Nat.zero_mul, run_loadNone]
          · cases h
      · cases h
    · cases h

end Cub

/- Every operation that runs no code; what operations look at. -/
namespace Cub
open Go (Value World Addr TypeId FuncId Program Oper Operand Sem Result)
variable {S : Seat} {fns : Nat → Prop} {ρ : Operand → Value} {o : Oper} {σ : Sg} {st st' : St} {w : World} {e e' : Env} {v : V} {op : Op}

theorem does_all (hτ : ∀ a b, S.τ a = S.τ b → a = b) (hk : op.kind ≠ .alloc) (hR : Rel S fns σ st w) (ho : OpSh S fns o op) (hv : VRs S σ (op.opnds.map (·.ev e)) (o.op.operands.toList.map ρ))
    (h : step1 op e st = some (v, st')) : Does S fns ρ o σ st w v st' := by
  cases op with
  | mv => exact does_mv hR ho hv h
  | pick => exact does_pick hR ho hv h
  | nilCheck => exact does_nilCheck hR ho hv h
  | bin => exact does_bin hR ho hv h
  | eq => exact does_eq hR ho hv h
  | un => exact does_un hR ho hv h
  | mkIface => exact does_mkIface hR ho hv h
  | mkFunc => exact does_mkFunc hR ho hv h
  | field => exact does_field hR ho hv h
  | fieldAddr => exact does_fieldAddr hR ho hv h
  | indexAddr => exact does_indexAddr hR ho hv h
  | index => exact does_index hR ho hv h
  | extract => exact does_extract hR ho hv h
  | minmax => exact does_minmax hR ho hv h
  | conv c x =>
    by_cases hc : c = .strBytes
    · subst hc; exact absurd rfl hk
    · exact does_conv hc hR ho hv h
  | slice => exact does_slice hR ho hv h
  | len => exact does_len hR ho hv h
  | typeAssert => exact does_typeAssert hτ hR ho hv h
  | build => exact does_build hR ho hv h
  | load => exact does_load hR ho hv h
  | lookup => exact does_lookup hR ho hv h
  | entry => exact does_entry hR ho hv h
  | store => exact does_store hR ho hv h
  | mapUpdate => exact does_mapUpdate hR ho hv h
  | mapEntry => exact does_mapEntry hR ho hv h
  | entryStore => exact does_entryStore hR ho hv h
  | delete => exact does_delete hR ho hv h
  | rangeMap => exact does_rangeMap hR ho hv h
  | nextStr => exact does_nextStr hR ho hv h
  | append => exact does_append hR ho hv h
  | copy => exact does_copy hR ho hv h
  | clear => exact does_clear hR ho hv h
  | nextMap | call | callv | panic | bad => cases h
  | _ => exact absurd rfl hk

theorem opSh_defer (ho : OpSh S fns o op) (c : Go.Call) : o.op ≠ .defer c := by
  intro h
  cases op <;> simp [OpSh, h] at ho

/-- An operation looks at its operands alone. -/
theorem step1_env (h : ∀ x ∈ op.opnds, x.ev e = x.ev e') : step1 op e st = step1 op e' st := by
  cases op <;> first
    | (simp only [Op.opnds, List.mem_cons, List.not_mem_nil, or_false, forall_eq_or_imp, forall_eq] at h; simp only [step1, h]; done)
    | skip
  case build zs ps =>
    have : (ps.map fun p => (p.1, p.2.1, p.2.2.ev e)) = ps.map fun p => (p.1, p.2.1, p.2.2.ev e') :=
      List.map_congr_left fun p hp => by rw [h p.2.2 (List.mem_map.2 ⟨p, hp, rfl⟩)]
    simp only [step1, this]
  case buildSlice len size zs ps =>
    have : (ps.map fun p => (p.1 * size, size, p.2.ev e)) = ps.map fun p => (p.1 * size, size, p.2.ev e') :=
      List.map_congr_left fun p hp => by rw [h p.2 (List.mem_map.2 ⟨p, hp, rfl⟩)]
    simp only [step1, this]
  case mkFunc f a b =>
    have h1 : evAll e a = evAll e' a := List.map_congr_left fun p hp => h p (List.mem_append.2 (.inl hp))
    have h2 : evAll e b = evAll e' b := List.map_congr_left fun p hp => h p (List.mem_append.2 (.inr hp))
    simp only [step1, h1, h2]
  case slice s size x lo hi mx =>
    have h0 : x.ev e = x.ev e' := h x (by simp [Op.opnds])
    have h1 : lo.map (·.ev e) = lo.map (·.ev e') := by cases lo with
      | none => rfl
      | some y => simp only [Option.map_some, h y (by simp [Op.opnds])]
    have h2 : hi.map (·.ev e) = hi.map (·.ev e') := by cases hi with
      | none => rfl
      | some y => simp only [Option.map_some, h y (by simp [Op.opnds])]
    have h3 : mx.map (·.ev e) = mx.map (·.ev e') := by cases mx with
      | none => rfl
      | some y => simp only [Option.map_some, h y (by simp [Op.opnds])]
    simp only [step1, h0, h1, h2, h3]

theorem allocOf_env (h : ∀ x ∈ op.opnds, x.ev e = x.ev e') : allocOf op e = allocOf op e' := by
  cases op <;> try rfl
  case box x => simp only [allocOf, h x (by simp [Op.opnds])]
  case buildSlice len size zs ps =>
    have : (ps.map fun p => (p.1 * size, size, p.2.ev e)) = ps.map fun p => (p.1 * size, size, p.2.ev e') :=
      List.map_congr_left fun p hp => by rw [h p.2 (List.mem_map.2 ⟨p, hp, rfl⟩)]
    simp only [allocOf, this]
  case mkSlice size bytes zs a b => simp only [allocOf, h a (by simp [Op.opnds]), h b (by simp [Op.opnds])]
  case rangeStr x => simp only [allocOf, h x (by simp [Op.opnds])]
  case conv c x => cases c <;> first | rfl | simp only [allocOf, h x (by simp [Op.opnds])]

/-- What neither lays nor changes anything leaves the state. -/
theorem step1_keeps (hk : op.kind = .pure ∨ op.kind = .read) (h : step1 op e st = some (v, st')) : st' = st := by
  cases op <;> first
    | (simp [Op.kind] at hk; done)
    | (simp only [step1, Option.some.injEq, Prod.mk.injEq] at h; exact h.2.symm)
    | (simp only [step1, Option.map_eq_some_iff] at h; obtain ⟨a, _, e⟩ := h; cases e; rfl)
    | skip
  case conv c x =>
    cases c <;> simp only [step1, convV] at h <;> (repeat' split at h) <;> first
      | contradiction
      | (cases h; rfl)
      | (cases h; done)
      | (simp [Option.bind_eq_some_iff] at h; exact h.2.symm)
      | (simp [Option.bind_eq_some_iff] at h; obtain ⟨_, _, _, _, _, h⟩ := h; exact h.symm)
      | (simp [Op.kind] at hk)
  all_goals (simp only [step1, Option.bind_eq_bind] at h; (repeat' split at h) <;> first
      | (cases h; rfl)
      | (cases h; done)
      | (simp only [Option.map_eq_some_iff] at h; obtain ⟨a, _, e⟩ := h; cases e; rfl)
      | (simp only [Option.bind_eq_some_iff, Option.some.injEq, Prod.mk.injEq] at h; obtain ⟨_, _, _, h⟩ := h; exact h.symm)
      | (simp only [Option.bind_eq_some_iff, Option.some.injEq, Prod.mk.injEq] at h; obtain ⟨_, _, _, _, _, h⟩ := h; exact h.symm)
      | (simp only [Option.bind_eq_some_iff, Option.some.injEq, Prod.mk.injEq] at h; obtain ⟨_, _, _, _, _, _, _, h⟩ := h; exact h.symm)
      | skip)

/-- What is pure looks at no state. -/
theorem step1_pure (hk : op.kind = .pure) (h : step1 op e st = some (v, st')) (st2 : St) : step1 op e st2 = some (v, st2) := by
  cases op <;> first
    | (simp [Op.kind] at hk; done)
    | skip
  case eq neg t x y =>
    simp only [step1] at h ⊢
    have : ∀ s, eqS s t (x.ev e) (y.ev e) = eqV t (x.ev e) (y.ev e) := by
      intro s
      cases t <;> first | (simp [Op.kind] at hk; done) | rfl
    rw [this] at h ⊢
    simp only [Option.map_eq_some_iff] at h ⊢
    obtain ⟨a, h1, h2⟩ := h
    exact ⟨a, h1, by cases h2; rfl⟩
  case conv c x =>
    cases c <;> first
      | (simp [Op.kind] at hk; done)
      | (simp only [step1, convV] at h ⊢; (repeat' split at h) <;> simp_all)
  case index s size agg x i =>
    simp only [step1] at h ⊢
    split at h
    · rename_i h1; simp only [h1, Option.bind_eq_bind, Option.bind_eq_some_iff, Option.some.injEq, Prod.mk.injEq] at h ⊢
      obtain ⟨a, h1, b, h2, h3, h4⟩ := h; exact ⟨a, h1, b, h2, h3, trivial⟩
    · rename_i h1; simp only [h1, Option.bind_eq_bind, Option.bind_eq_some_iff, Option.some.injEq, Prod.mk.injEq] at h ⊢
      obtain ⟨a, h1, b, h2, h3, h4⟩ := h; exact ⟨a, h1, b, h2, h3, trivial⟩
    · cases h
  case minmax mx x y =>
    simp only [step1] at h ⊢
    split at h
    · rename_i h1 h2; simp only [h1, h2, Option.some.injEq, Prod.mk.injEq] at h ⊢; exact ⟨h.1, trivial⟩
    · cases h
  case len s x => cases s <;> first | (simp [Op.kind] at hk; done) | (simp only [step1] at h ⊢; (repeat' split at h) <;> simp_all)
  all_goals (simp only [step1] at h ⊢; (repeat' split at h) <;> first
    | (simp_all; done)
    | (simp only [Option.map_eq_some_iff] at h ⊢; obtain ⟨a, h1, h2⟩ := h; exact ⟨a, h1, by cases h2; rfl⟩)
    | skip)

theorem loadN_mono {st2 : St} (hm : ∀ i o, st.mem i = some o → st2.mem i = some o) {b off n : Nat} {l : List V} (h : loadN st b off n = some l) : loadN st2 b off n = some l := by
  rcases loadN_cases h with ⟨c, o, h1, hle, rfl⟩ | ⟨f, h1, h⟩
  · rw [loadN_cells (hm _ _ h1), if_pos hle]
  · rw [loadN_ro (hm _ _ h1)]; exact h

/-- A read looks at what is there. -/
theorem step1_mono {st2 : St} (hk : op.kind = .read) (hm : ∀ i o, st.mem i = some o → st2.mem i = some o) (h : step1 op e st = some (v, st')) : step1 op e st2 = some (v, st2) := by
  cases op <;> first
    | (simp [Op.kind] at hk; done)
    | skip
  case eq neg t x y =>
    cases t <;> first | (simp [Op.kind] at hk; done) | skip
    simp only [step1, Option.map_eq_some_iff] at h ⊢
    obtain ⟨a, h1, h2⟩ := h
    refine ⟨a, ?_, by cases h2; rfl⟩
    unfold eqS at h1 ⊢
    split at h1
    · split at h1
      · rename_i hab; simp only [if_pos hab]; exact h1
      · rename_i hab
        simp only [if_neg hab]
        split at h1
        · rename_i h3 h4; rw [hm _ _ h3, hm _ _ h4]; exact h1
        · cases h1
    · exact h1
  case conv c x =>
    cases c <;> first | (simp [Op.kind] at hk; done) | skip
    simp only [step1, convV] at h ⊢
    split at h <;> first | contradiction | skip
    · rename_i h1
      try simp only [h1]
      simp only [Option.some.injEq, Prod.mk.injEq] at h ⊢; exact ⟨h.1, trivial⟩
    · rename_i h1
      simp only [Option.bind_eq_bind, Option.bind_eq_some_iff, Option.some.injEq, Prod.mk.injEq] at h
      obtain ⟨l, h2, s, h3, h4, h5⟩ := h
      simp only [h1, Option.bind_eq_bind, Option.bind_eq_some_iff, Option.some.injEq, Prod.mk.injEq]
      exact ⟨l, loadN_mono hm h2, s, h3, h4, trivial⟩
    simp only [step1, convV] at h ⊢
    split at h <;> first | contradiction | skip
    rename_i h1
    split at h
    · rename_i h2
      simp only [h1, hm _ _ h2, Option.some.injEq, Prod.mk.injEq] at h ⊢
      exact ⟨h.1, trivial⟩
    · cases h
  case load n agg a =>
    simp only [step1] at h ⊢
    split at h
    · rename_i h1
      simp only [Option.bind_eq_bind, Option.bind_eq_some_iff, Option.some.injEq, Prod.mk.injEq] at h
      obtain ⟨l, h2, s, h3, h4, h5⟩ := h
      simp only [h1, Option.bind_eq_bind, Option.bind_eq_some_iff, Option.some.injEq, Prod.mk.injEq]
      exact ⟨l, loadN_mono hm h2, s, h3, h4, trivial⟩
    · cases h
  case lookup t zero ok m k =>
    have fin : ∀ (es : List (V × V × Nat)) (s : St) (v : V) (s' : St), ((findKey t (k.ev e) es 0).bind fun r => some (if ok = true then V.tuple [(match r with | some (_, v) => (v, true) | none => (zero, false)).1, V.bool (match r with | some (_, v) => (v, true) | none => (zero, false)).2]
          else (match r with | some (_, v) => (v, true) | none => (zero, false)).1, s)) = some (v, s') → ∀ s2 : St, ((findKey t (k.ev e) es 0).bind fun r => some (if ok = true then V.tuple [(match r with | some (_, v) => (v, true) | none => (zero, false)).1, V.bool (match r with | some (_, v) => (v, true) | none => (zero, false)).2]
          else (match r with | some (_, v) => (v, true) | none => (zero, false)).1, s2)) = some (v, s2) := by
      intro es s v s' h s2
      simp only [Option.bind_eq_some_iff, Option.some.injEq, Prod.mk.injEq] at h ⊢
      obtain ⟨r, h1, h2, h3⟩ := h
      exact ⟨r, h1, h2, trivial⟩
    simp only [step1, Option.bind_eq_bind] at h ⊢
    split at h
    · rename_i h5
      try simp only [h5]
      simp only [Option.bind_some] at h ⊢; exact fin _ _ _ _ h _
    · rename_i h5
      try simp only [h5]
      split at h
      · rename_i h6; simp only [hm _ _ h6]; simp only [Option.bind_some] at h ⊢; exact fin _ _ _ _ h _
      · simp at h
    · simp at h
  case entry x =>
    simp only [step1] at h ⊢
    split at h
    · rename_i h1
      split at h
      · rename_i h2
        split at h
        · rename_i h3
          simp only [h1, hm _ _ h2, hm _ _ h3]
          split at h
          · rename_i h4
            rw [if_pos h4]
            simp only [Option.bind_eq_bind, Option.bind_eq_some_iff, Option.some.injEq, Prod.mk.injEq] at h ⊢
            obtain ⟨a, h5, b, h6, h7, h8⟩ := h
            exact ⟨a, h5, b, h6, h7, trivial⟩
          · cases h
        · cases h
      · cases h
    · cases h
  case len s x =>
    cases s <;> first | (simp [Op.kind] at hk; done) | skip
    simp only [step1] at h ⊢
    split at h <;> first | contradiction | skip
    · rename_i h1
      try simp only [h1]
      simp only [Option.some.injEq, Prod.mk.injEq] at h ⊢; exact ⟨h.1, trivial⟩
    · rename_i h1
      split at h
      · rename_i h2; simp only [h1, hm _ _ h2]; simp only [Option.some.injEq, Prod.mk.injEq] at h ⊢; exact ⟨h.1, trivial⟩
      · cases h

end Cub

/- A region: its operations in any of their orders. -/
namespace Cub
open Go (Value World Addr TypeId FuncId Program Oper Operand Sem Result)
variable {S : Seat} {fns : Nat → Prop} {σ : Sg} {st st' : St} {w : World}

/-- What an own step has done. -/
structure Rec where
  dst : Option Nat
  v : V
  id : Option Nat

/-- The temporaries behind those steps of which P holds. -/
def cur (P : Nat → Bool) : Nat → List Rec → Env → Env
  | _, [], e => e
  | q, r :: H, e => cur P (q + 1) H (if P q then updO e r.dst r.v else e)

theorem cur_congr {P P' : Nat → Bool} {d : Nat} : ∀ (H : List Rec) (q : Nat) (e e' : Env), e d = e' d → (∀ (i : Nat) r, H[i]? = some r → r.dst = some d → P (q + i) = P' (q + i)) → cur P q H e d = cur P' q H e' d
  | [], q, e, e', h, _ => h
  | r :: H, q, e, e', h, hp => by
    simp only [cur]
    refine cur_congr H (q + 1) _ _ ?_ (fun i r' hi hd => by
      have := hp (i + 1) r' (by simpa using hi) hd
      rwa [show q + 1 + i = q + (i + 1) by omega])
    by_cases hd : r.dst = some d
    · have := hp 0 r rfl hd
      simp only [Nat.add_zero] at this
      rw [this]
      split
      · simp [updO, hd, upd]
      · exact h
    · have hne : ∀ e : Env, updO e r.dst r.v d = e d := by
        intro e
        cases hr : r.dst with
        | none => rfl
        | some d' =>
          rw [hr] at hd
          simp only [updO, upd]
          rw [if_neg (fun h => hd (by rw [h]))]
      (repeat' split) <;> simp [hne, h]
theorem cur_append (P : Nat → Bool) : ∀ (H : List Rec) (q : Nat) (e : Env) (r : Rec), cur P q (H ++ [r]) e = if P (q + H.length) then updO (cur P q H e) r.dst r.v else cur P q H e
  | [], q, e, r => by simp [cur]
  | r' :: H, q, e, r => by
    simp only [List.cons_append, cur, cur_append P H (q + 1), List.length_cons]
    rw [show q + 1 + H.length = q + (H.length + 1) by omega]
/-- The last writer's value. -/
theorem cur_last {d : Nat} {r : Rec} (hd : r.dst = some d) : ∀ (H : List Rec) (q i : Nat) (e : Env), H[i]? = some r → cur (fun j => decide (j < q + i + 1)) q H e d = r.v
  | [], q, i, e, h => by simp at h
  | x :: H, q, 0, e, h => by
    simp at h; subst h
    simp only [cur]
    rw [if_pos (by simp)]
    rw [cur_congr (P' := fun _ => false) H (q + 1) _ (updO e x.dst x.v) rfl (fun i r hi _ => by simp)]
    have : ∀ (H : List Rec) (q : Nat) (e : Env), cur (fun _ => false) q H e = e := by
      intro H
      induction H with
      | nil => intro q e; rfl
      | cons x H ih => intro q e; simp only [cur]; rw [ih]; simp
    rw [this]; simp [updO, hd, upd]
  | x :: H, q, i + 1, e, h => by
    simp only [cur]
    have := cur_last hd H (q + 1) i (if decide (q < q + (i + 1) + 1) = true then updO e x.dst x.v else e) (by simpa using h)
    rwa [show q + 1 + i + 1 = q + (i + 1) + 1 by omega] at this
theorem cur_all (H : List Rec) (q : Nat) (e : Env) (d : Nat) : cur (fun j => decide (j < q + H.length)) q H e d = cur (fun _ => true) q H e d :=
  cur_congr H q e e rfl fun i r hi _ => by
    have := (List.getElem?_eq_some_iff.1 hi).1
    simp; omega

def OkOrd (ops : Array Oper) : List Nat → Prop
  | [] => True
  | i :: r => (∀ j ∈ i :: r, ¬ Pre ops j i) ∧ OkOrd ops r

/-- What 'RegM' says. -/
structure RegOk (S : Seat) (fns : Nat → Prop) (n : Nat) (ops : Array Oper) (L : List Step) (ord : List Nat) : Prop where
  len : ord.length = L.length
  size : ord.length = ops.size
  nd : ord.Nodup
  lt : ∀ i ∈ ord, i < ops.size
  step : ∀ (q i : Nat) (s : Step), ord[q]? = some i → L[q]? = some s → ∃ o, ops[i]? = some o ∧ StepM S fns n ops o s
  back : ∀ (i : Nat) (o : Oper) (e : Go.Edge), ops[i]? = some o → e ∈ o.after → Go.Region.binds .any e = true → e.on < i
  pair : ∀ (p q : Nat) (i j : Nat) (s t : Step), p < q → ord[p]? = some i → ord[q]? = some j → L[p]? = some s → L[q]? = some t →
      ¬ Pre ops j i ∧
      (s.op.kind = .eff → Pre ops i j) ∧
      (s.op.kind = .read → t.op.kind = .eff → Pre ops i j ∨
        (s.op ∈ t.stable ∧ ∀ (r : Nat) (x : Step), p ≤ r → r < q → L[r]? = some x → ∀ d, x.dst = some d → d ∉ s.reads)) ∧
      (∀ d, s.dst = some d → (d ∈ t.reads ∨ t.dst = some d) → Pre ops i j) ∧
      (∀ d, t.dst = some d → d ∈ s.reads → Pre ops i j)

theorem RegM.ok {n : Nat} {ops : Array Oper} {L : List Step} (h : RegM S fns n ops L) : ∃ ord, RegOk S fns n ops L ord := by
  obtain ⟨ord, h1, h2, h3, h4, h5, h6, h7⟩ := h
  exact ⟨ord, h1, h2, h3, h4, h5, h6, h7⟩

def isDone (ord rest : List Nat) (q : Nat) : Bool := match ord[q]? with
  | some i => !rest.contains i
  | none => false

/-- What is left to do, in its order; 'm' own steps are done. -/
structure Left (ops : Array Oper) (ord rest : List Nat) (m : Nat) : Prop where
  nd : rest.Nodup
  sub : ∀ i ∈ rest, i ∈ ord
  clo : ∀ i ∈ ord, i ∉ rest → ∀ j ∈ rest, ¬ Pre ops j i
  oko : OkOrd ops rest
  fut : ∀ q i, m ≤ q → ord[q]? = some i → i ∈ rest

theorem pos_inj {ord : List Nat} (hnd : ord.Nodup) {p q i : Nat} (hp : ord[p]? = some i) (hq : ord[q]? = some i) : p = q :=
  (List.getElem?_inj (List.getElem?_eq_some_iff.1 hp).1 hnd).1 (hp.trans hq.symm)

theorem Left.more {ops : Array Oper} {ord rest : List Nat} {m : Nat} (h : Left ops ord rest m) : Left ops ord rest (m + 1) :=
  ⟨h.nd, h.sub, h.clo, h.oko, fun q i hq hi => h.fut q i (by omega) hi⟩
theorem Left.tail {ops : Array Oper} {ord rest : List Nat} {m i q : Nat} (h : Left ops ord (i :: rest) m) (hnd : ord.Nodup) (hq : ord[q]? = some i) (hm : q < m) : Left ops ord rest m where
  nd := (List.nodup_cons.1 h.nd).2
  sub j hj := h.sub j (List.mem_cons_of_mem _ hj)
  clo j hj hn k hk := by
    by_cases hji : j = i
    · subst hji; exact h.oko.1 k (List.mem_cons_of_mem _ hk)
    · exact h.clo j hj (by simp [hji, hn]) k (List.mem_cons_of_mem _ hk)
  oko := h.oko.2
  fut p j hp hj := by
    have := h.fut p j hp hj
    rcases List.mem_cons.1 this with e | e
    · subst e
      exfalso
      have := pos_inj hnd hq hj
      omega
    · exact e

section
variable {n : Nat} {ops : Array Oper} {L : List Step} {ord rest : List Nat} {H : List Rec} {i q : Nat}

theorem isDone_of {j : Nat} (h : ord[q]? = some j) : isDone ord rest q = !rest.contains j := by simp [isDone, h]

theorem pos_of (hR : RegOk S fns n ops L ord) {p : Nat} {r : Rec} (hl : H.length ≤ L.length) (h : H[p]? = some r) : ∃ j s, ord[p]? = some j ∧ L[p]? = some s := by
  have h1 := (List.getElem?_eq_some_iff.1 h).1
  have h2 : p < ord.length := by rw [hR.len]; omega
  have h3 : p < L.length := by omega
  exact ⟨ord[p], L[p], List.getElem?_eq_getElem h2, List.getElem?_eq_getElem h3⟩

/-- What the head of the order reads is what its own step has read. -/
theorem reads_now (hR : RegOk S fns n ops L ord) (hl : H.length ≤ L.length) (hd : ∀ (p : Nat) r s, H[p]? = some r → L[p]? = some s → r.dst = s.dst) (hL : Left ops ord (i :: rest) H.length)
    (hq : ord[q]? = some i) {s : Step} (hs : L[q]? = some s) (e : Env) {d : Nat} (hdr : d ∈ s.reads) :
    cur (isDone ord (i :: rest)) 0 H e d = cur (fun j => decide (j < q)) 0 H e d := by
  refine cur_congr H 0 e e rfl fun p r hp hdst => ?_
  obtain ⟨j, t, hj, ht⟩ := pos_of hR hl hp
  have hdst' : t.dst = some d := by rw [← hd p r t hp ht]; exact hdst
  rw [Nat.zero_add, isDone_of hj]
  rcases Nat.lt_trichotomy p q with h | h | h
  · have hpre := (hR.pair p q j i t s h hj hq ht hs).2.2.2.1 d hdst' (.inl hdr)
    have : j ∉ i :: rest := fun hm => hL.oko.1 j hm hpre
    rw [decide_eq_true h]
    simp only [Bool.not_eq_true', List.contains_eq_mem]
    simpa using this
  · subst h
    rw [hq] at hj; cases hj
    simp
  · have hpre := (hR.pair q p i j s t h hq hj hs ht).2.2.2.2 d hdst' hdr
    have : j ∈ i :: rest := by
      refine Decidable.byContradiction fun hn => ?_
      exact hL.clo j (List.mem_of_getElem? hj) hn i (by simp) hpre
    rw [decide_eq_false (by omega), Bool.not_eq_false', List.contains_iff_mem]
    exact this

/-- The temporaries behind the head of the order. -/
theorem cur_next (hR : RegOk S fns n ops L ord) (hl : H.length ≤ L.length) (hd : ∀ (p : Nat) r s, H[p]? = some r → L[p]? = some s → r.dst = s.dst) (hL : Left ops ord (i :: rest) H.length)
    (hq : ord[q]? = some i) {r : Rec} (hr : H[q]? = some r) (e : Env) (d : Nat) :
    cur (isDone ord rest) 0 H e d = if r.dst = some d then r.v else cur (isDone ord (i :: rest)) 0 H e d := by
  have hin : i ∉ rest := (List.nodup_cons.1 hL.nd).1
  have same : ∀ p, p ≠ q → isDone ord rest p = isDone ord (i :: rest) p := by
    intro p hp
    unfold isDone
    cases hj : ord[p]? with
    | none => rfl
    | some j =>
      have : j ≠ i := fun h => hp (pos_inj hR.nd (h ▸ hj) hq)
      simp [this]
  split
  · rename_i hdst
    obtain ⟨_, s, _, hs⟩ := pos_of hR hl hr
    have hsd : s.dst = some d := by rw [← hd q r s hr hs]; exact hdst
    have h1 := cur_last hdst H 0 q e hr
    rw [← h1]
    refine cur_congr H 0 e e rfl fun p r' hp hdst' => ?_
    obtain ⟨j, t, hj, ht⟩ := pos_of hR hl hp
    have htd : t.dst = some d := by rw [← hd p r' t hp ht]; exact hdst'
    rw [Nat.zero_add, isDone_of hj]
    rcases Nat.lt_trichotomy p q with h | h | h
    · have hpre := (hR.pair p q j i t s h hj hq ht hs).2.2.2.1 d htd (.inr hsd)
      have : j ∉ i :: rest := fun hm => hL.oko.1 j hm hpre
      simp only [List.mem_cons, not_or] at this
      rw [decide_eq_true (by omega)]
      simpa using this.2
    · subst h
      rw [hq] at hj; cases hj
      rw [decide_eq_true (by omega)]
      simpa using hin
    · have hpre := (hR.pair q p i j s t h hq hj hs ht).2.2.2.1 d hsd (.inr htd)
      have : j ∈ i :: rest := by
        refine Decidable.byContradiction fun hn => ?_
        exact hL.clo j (List.mem_of_getElem? hj) hn i (by simp) hpre
      have hji : j ≠ i := fun h' => by
        have := pos_inj hR.nd (h' ▸ hj) hq; omega
      simp only [List.mem_cons, hji, false_or] at this
      rw [decide_eq_false (by omega)]
      simpa using this
  · rename_i hdst
    refine cur_congr H 0 e e rfl fun p r' hp hdst' => ?_
    rw [Nat.zero_add]
    refine same p fun h => ?_
    subst h
    rw [hr] at hp; cases hp
    exact hdst hdst'
end

end Cub

/- The orders that the model may take of a region. -/
namespace Cub
open Go (Value World Addr TypeId FuncId Program Oper Operand Sem Result)
variable {S : Seat} {fns : Nat → Prop} {n : Nat} {ops : Array Oper} {L : List Step} {ord : List Nat}

theorem nodup_lt_len : ∀ (n : Nat) (l : List Nat), l.Nodup → (∀ x ∈ l, x < n) → l.length ≤ n
  | 0, l, _, h => by
    cases l with
    | nil => simp
    | cons x l => exact absurd (h x (by simp)) (by omega)
  | n + 1, l, hn, h => by
    have h1 := nodup_lt_len n (l.erase n) (hn.erase n) (fun x hx => by
      have := (hn.mem_erase_iff).1 hx
      have := h x this.2
      omega)
    rw [List.length_erase] at h1
    split at h1 <;> omega
theorem nodup_all {n : Nat} {l : List Nat} (hn : l.Nodup) (hl : l.length = n) (h : ∀ x ∈ l, x < n) {i : Nat} (hi : i < n) : i ∈ l := by
  refine Decidable.byContradiction fun hc => ?_
  have := nodup_lt_len n (i :: l) (List.nodup_cons.2 ⟨hc, hn⟩) (fun x hx => by
    rcases List.mem_cons.1 hx with rfl | hx
    · exact hi
    · exact h x hx)
  simp at this; omega

theorem RegOk.mem (hR : RegOk S fns n ops L ord) {i : Nat} (hi : i < ops.size) : i ∈ ord := nodup_all hR.nd hR.size hR.lt hi

theorem Pre.lt (hR : RegOk S fns n ops L ord) {i j : Nat} (h : Pre ops i j) : i < j := by
  have one : ∀ {i j : Nat}, edge ops i j → i < j := by
    intro i j ⟨o, e, h1, h2, h3, h4⟩
    rw [← h4]; exact hR.back j o e h1 h2 h3
  induction h with
  | one h => exact one h
  | more _ h ih => exact Nat.lt_trans ih (one h)

theorem okOrd_sorted (hR : RegOk S fns n ops L ord) : ∀ (l : List Nat), l.Pairwise (· < ·) → OkOrd ops l
  | [], _ => trivial
  | i :: r, h => by
    obtain ⟨h1, h2⟩ := List.pairwise_cons.1 h
    refine ⟨fun j hj hp => ?_, okOrd_sorted hR r h2⟩
    have := Pre.lt hR hp
    rcases List.mem_cons.1 hj with rfl | hj
    · omega
    · have := h1 j hj; omega

theorem left_of (hR : RegOk S fns n ops L ord) {sch : List Nat} (h1 : sch.Nodup) (h2 : ∀ i ∈ sch, i < ops.size) (h3 : ∀ i, i < ops.size → i ∈ sch) (h4 : OkOrd ops sch) : Left ops ord sch 0 where
  nd := h1
  sub i hi := hR.mem (h2 i hi)
  clo i hi hn := absurd (h3 i (hR.lt i hi)) hn
  oko := h4
  fut q i _ hi := h3 i (hR.lt i (List.mem_of_getElem? hi))

theorem left_range (hR : RegOk S fns n ops L ord) : Left ops ord (List.range ops.size) 0 :=
  left_of hR List.nodup_range (fun i hi => List.mem_range.1 hi) (fun i hi => List.mem_range.2 hi) (okOrd_sorted hR _ List.pairwise_lt_range)

def rdy (ops : Array Oper) (listed : Array Bool) : List Nat :=
  (List.range ops.size).filter fun i =>
    !listed.getD i true && ((ops[i]?).map (·.after.all fun e => !Go.Region.binds .any e || listed.getD e.on false)).getD false

theorem rdy_mem {listed : Array Bool} {i : Nat} (h : i ∈ rdy ops listed) : i < ops.size ∧ listed.getD i true = false ∧ ∀ k, edge ops k i → listed.getD k false = true := by
  simp only [rdy, List.mem_filter, List.mem_range, Bool.and_eq_true, Bool.not_eq_true'] at h
  obtain ⟨h1, h2, h3⟩ := h
  refine ⟨h1, h2, fun k ⟨o, e, e1, e2, e3, e4⟩ => ?_⟩
  rw [e1] at h3
  simp only [Option.map_some, Option.getD_some, Array.all_eq_true_iff_forall_mem] at h3
  have := h3 e e2
  rw [e3, e4] at this
  simpa using this

theorem rdy_none (hR : RegOk S fns n ops L ord) {listed : Array Bool} (hs : listed.size = ops.size) (h : rdy ops listed = []) : ∀ i, i < ops.size → listed.getD i true = true := by
  intro i
  induction i using Nat.strongRecOn with
  | _ i ih =>
    intro hi
    refine Decidable.byContradiction fun hc => ?_
    have : i ∈ rdy ops listed := by
      simp only [rdy, List.mem_filter, List.mem_range, Bool.and_eq_true, Bool.not_eq_true']
      refine ⟨hi, by simpa using hc, ?_⟩
      rw [Array.getElem?_eq_getElem hi]
      simp only [Option.map_some, Option.getD_some, Array.all_eq_true_iff_forall_mem]
      intro e he
      cases hb : Go.Region.binds .any e with
      | false => rfl
      | true =>
        have hlt := hR.back i ops[i] e (Array.getElem?_eq_getElem hi) he hb
        have := ih e.on hlt (by omega)
        simp only [Bool.not_true, Bool.false_or]
        rw [Array.getD_eq_getD_getElem?] at this ⊢
        rw [Array.getElem?_eq_getElem (by omega)] at this ⊢
        exact this
    rw [h] at this; cases this

theorem lin_step (listed : Array Bool) (fuel t : Nat) : Go.Region.linearise.go .any ops (fuel + 1) t listed [] = match (rdy ops listed)[t % (rdy ops listed).length]? with
    | some i => i :: Go.Region.linearise.go .any ops fuel (t / (rdy ops listed).length) (listed.setIfInBounds i true) []
    | none => [] := by
  rw [Go.Region.linearise.go]
  show (match (rdy ops listed)[t % (rdy ops listed).length]? with | some i => _ | none => _) = _
  cases (rdy ops listed)[t % (rdy ops listed).length]? with
  | none => rfl
  | some i =>
    simp only
    rw [Go.linearise_go_acc]
    rfl

theorem lin_ok (hR : RegOk S fns n ops L ord) : ∀ (fuel t : Nat) (listed : Array Bool), listed.size = ops.size →
    (∀ x j, listed.getD x false = true → listed.getD j true = false → ¬ Pre ops j x) →
    let l := Go.Region.linearise.go .any ops fuel t listed []
    l.Nodup ∧ (∀ i ∈ l, i < ops.size ∧ listed.getD i true = false) ∧ OkOrd ops l ∧ (l.length = fuel ∨ ∀ i, i < ops.size → listed.getD i true = true ∨ i ∈ l)
  | 0, t, listed, hs, hc => by simp [Go.Region.linearise.go, OkOrd]
  | fuel + 1, t, listed, hs, hc => by
    intro l
    have hl : l = _ := lin_step listed fuel t
    cases hi : (rdy ops listed)[t % (rdy ops listed).length]? with
    | none =>
      rw [hi] at hl
      simp only at hl
      have hnil : rdy ops listed = [] := by
        cases hr : rdy ops listed with
        | nil => rfl
        | cons x xs =>
          rw [hr] at hi
          have hlt : t % (x :: xs).length < (x :: xs).length := Nat.mod_lt _ (by simp)
          rw [List.getElem?_eq_getElem hlt] at hi; cases hi
      rw [hl]
      exact ⟨List.nodup_nil, by simp, trivial, .inr fun i h => .inl (rdy_none hR hs hnil i h)⟩
    | some i =>
      rw [hi] at hl
      simp only at hl
      obtain ⟨h1, h2, h3⟩ := rdy_mem (List.mem_of_getElem? hi)
      have hget : ∀ k b, (listed.setIfInBounds i true).getD k b = if k = i then true else listed.getD k b := by
        intro k b
        rw [Array.getD_eq_getD_getElem?, Array.getD_eq_getD_getElem?, Array.getElem?_setIfInBounds]
        by_cases hk : k = i
        · subst hk; simp [hs, h1]
        · rw [if_neg (Ne.symm hk), if_neg hk]
      have hpi : ∀ j, listed.getD j true = false → ¬ Pre ops j i := by
        intro j hj hp
        have key : ∀ k, listed.getD k false = true → j ≠ k := by
          intro k hk he
          subst he
          rw [Array.getD_eq_getD_getElem?] at hk hj
          cases hq : listed[j]? with
          | none => rw [hq] at hk; cases hk
          | some b => rw [hq] at hk hj; simp at hk hj; rw [hk] at hj; cases hj
        cases hp with
        | one h => exact key j (h3 j h) rfl
        | more h h' => exact hc _ _ (h3 _ h') hj h
      have hc' : ∀ x j, (listed.setIfInBounds i true).getD x false = true → (listed.setIfInBounds i true).getD j true = false → ¬ Pre ops j x := by
        intro x j hx hj
        rw [hget] at hx hj
        by_cases hji : j = i
        · rw [if_pos hji] at hj; cases hj
        · rw [if_neg hji] at hj
          by_cases hxi : x = i
          · subst hxi; exact hpi j hj
          · rw [if_neg hxi] at hx; exact hc x j hx hj
      obtain ⟨g1, g2, g3, g4⟩ := lin_ok hR fuel (t / (rdy ops listed).length) (listed.setIfInBounds i true) (by simpa using hs) hc'
      have g2' : ∀ j ∈ Go.Region.linearise.go .any ops fuel (t / (rdy ops listed).length) (listed.setIfInBounds i true) [], j ≠ i ∧ listed.getD j true = false := by
        intro j hj
        have := (g2 j hj).2
        rw [hget] at this
        by_cases hji : j = i
        · rw [if_pos hji] at this; cases this
        · rw [if_neg hji] at this; exact ⟨hji, this⟩
      rw [hl]
      refine ⟨List.nodup_cons.2 ⟨fun h => (g2' i h).1 rfl, g1⟩, fun j hj => ?_, ⟨fun j hj => ?_, g3⟩, ?_⟩
      · rcases List.mem_cons.1 hj with rfl | hj
        · exact ⟨h1, h2⟩
        · exact ⟨(g2 j hj).1, (g2' j hj).2⟩
      · rcases List.mem_cons.1 hj with rfl | hj
        · exact hpi _ h2
        · exact hpi _ (g2' j hj).2
      · rcases g4 with g4 | g4
        · left; simp [g4]
        · right
          intro j hj
          rcases g4 j hj with h | h
          · rw [hget] at h
            by_cases hji : j = i
            · right; simp [hji]
            · rw [if_neg hji] at h; exact .inl h
          · right; exact List.mem_cons_of_mem _ h

theorem left_schedule (hR : RegOk S fns n ops L ord) (t : Nat) : Left ops ord (Go.Region.schedule true ops t) 0 := by
  have he : Go.Region.schedule true ops t = Go.Region.linearise.go .any ops ops.size t (Array.replicate ops.size false) [] := by
    simp [Go.Region.schedule, Go.Region.linearise]
  have hf : ∀ k b, k < ops.size → (Array.replicate ops.size false).getD k b = false := by
    intro k b hk
    rw [Array.getD_eq_getD_getElem?, Array.getElem?_replicate, if_pos hk]; rfl
  obtain ⟨h1, h2, h3, h4⟩ := lin_ok hR ops.size t (Array.replicate ops.size false) (by simp) (fun x j hx _ => by
    rw [Array.getD_eq_getD_getElem?, Array.getElem?_replicate] at hx
    split at hx <;> cases hx)
  rw [he]
  refine left_of hR h1 (fun i hi => (h2 i hi).1) (fun i hi => ?_) h3
  rcases h4 with h4 | h4
  · exact nodup_all h1 h4 (fun i hi => (h2 i hi).1) hi
  · rcases h4 i hi with h | h
    · rw [hf i true hi] at h; cases h
    · exact h

end Cub

/- One operation of a region, in the model and in own steps. -/
namespace Cub
open Go (Value World Addr TypeId FuncId Program Oper Operand Sem Result)
variable {S : Seat} {fns : Nat → Prop} {n : Nat} {ops : Array Oper} {L : List Step} {ord rest : List Nat} {σ : Sg} {st st' : St} {w : World}

theorem stepR_value {P : Program} {b : Go.Frame} {a : Go.Act} {k : List Go.Item} {cs : List Go.Frame} {w' : World} {i : Nat} {o : Oper} {u : Value} (ho : ops[i]? = some o) (hw : Go.Region.wanted o (Go.yielded ops a.tmps) = true)
    (hnd : ∀ c, o.op ≠ .defer c) (h : (Go.execOp a.eval o).run P w = .ok (.value u) w' ∨ ((Go.execOp a.eval o).run P w = .ok .skip w' ∧ u = Go.undef)) :
    Go.step P (Go.lone (b.atR a (.inRegion ops (i :: rest) :: k)) cs w) = .next (Go.lone (b.atR (a.put o.dst u) (.inRegion ops rest :: k)) cs w') := by
  have hg := Go.stepGR_op (P := P) (b := b) (k := k) (cs := cs) (w := w) (rest := rest) ho hw
  have hfin : ∀ v, (b.atR a (.inRegion ops (i :: rest) :: k)).finish v = b.atR (a.put o.dst v) (.inRegion ops rest :: k) := by
    intro v; rw [Go.Frame.finish_atR, ho]; rfl
  refine Go.step_lone_go ?_
  rw [hg, ← hfin, Go.Oper.semAt_eq _ _ _ hnd]
  rcases h with h | ⟨h, rfl⟩
  · simp [Go.stepG.apply, h]
  · simp [Go.stepG.apply, h]

theorem vr_bool {v : V} {b : Bool} (h : VR S σ v (.bool b)) : v = .bool b := by
  cases v with
  | bool c => simp only [VR] at h; cases h; rfl
  | ptr a => cases a <;> simp [VR] at h
  | slice a k c =>
    cases a with
    | none => simp [VR] at h
    | some a => cases c <;> simp [VR] at h
  | map r => cases r <;> simp [VR] at h
  | _ => simp [VR] at h

theorem put_getD (a : Go.Act) (dst : Option Nat) (u : Value) (d : Nat) (h : ∀ x, dst = some x → x < a.tmps.size) :
    (a.put dst u).tmps.size = a.tmps.size ∧ (a.put dst u).tmps.getD d Go.undef = if dst = some d then u else a.tmps.getD d Go.undef := by
  cases dst with
  | none => simp [Go.Act.put]
  | some x =>
    have hx := h x rfl
    simp only [Go.Act.put, Array.size_setIfInBounds, true_and, Option.some.injEq]
    rw [Array.getD_eq_getD_getElem?, Array.getElem?_setIfInBounds, Array.getD_eq_getD_getElem?]
    by_cases hd : x = d
    · subst hd; simp [hx]
    · simp [hd]

/-- An operand's value. -/
theorem ev_rel (hR : Rel S fns σ st w) {a : Go.Act} {e : Env} {x : X} {o : Operand} (hx : XM S (· < n) o x) (he : ∀ d, d ∈ x.tmps → d < n → VR S σ (e d) (a.tmps.getD d Go.undef)) : VR S σ (x.ev e) (a.eval o) := by
  cases x with
  | t i =>
    cases o <;> simp only [XM] at hx
    obtain ⟨h, hi⟩ := hx
    subst h
    exact he _ (by simp [X.tmps]) hi
  | c v =>
    cases o <;> simp only [XM] at hx
    exact hx.le (fun _ _ h => by cases h)
  | g i =>
    cases o <;> simp only [XM] at hx
    simp only [X.ev, Go.Act.eval, VR]
    exact ⟨_, rfl, _, hR.glob _ _ hx, rfl⟩
  | f i =>
    cases o <;> simp only [XM] at hx
    subst hx
    simp only [X.ev, Go.Act.eval, VR]
    exact ⟨_, _, rfl, by simp [VRs], by simp [VRs]⟩

theorem evs_rel (hR : Rel S fns σ st w) {a : Go.Act} {e : Env} : ∀ {xs : List X} {os : List Operand}, All2 (XM S (· < n)) os xs → (∀ d, d ∈ xs.flatMap X.tmps → d < n → VR S σ (e d) (a.tmps.getD d Go.undef)) →
    VRs S σ (xs.map (·.ev e)) (os.map a.eval)
  | [], [], _, _ => by simp [VRs]
  | x :: xs, o :: os, h, he => by
    simp only [List.map_cons]
    exact .cons (ev_rel hR h.1 fun d hd hn => he d (by simp [hd]) hn) (evs_rel hR h.2 fun d hd hn => he d (by
      rw [List.flatMap_cons]; exact List.mem_append.2 (.inr hd)) hn)
  | [], _ :: _, h, _ => h.elim
  | _ :: _, [], h, _ => h.elim

/-- Whether an operation is wanted. -/
theorem wanted_iff {a : Go.Act} {e : Env} {o : Oper} {s : Step} (hs : StepM S fns n ops o s) (hn : n ≤ a.tmps.size) (he : ∀ d, d ∈ s.reads → d < n → VR S σ (e d) (a.tmps.getD d Go.undef)) :
    Go.Region.wanted o (Go.yielded ops a.tmps) = true ↔ s.wanted e := by
  obtain ⟨_, _, _, _, hg⟩ := hs
  unfold Step.wanted Go.Region.wanted
  cases hgs : s.guard with
  | none => rw [hgs] at hg; simp only at hg; rw [hg]; simp
  | some tb =>
    obtain ⟨t, b⟩ := tb
    rw [hgs] at hg
    obtain ⟨ht, j, hj, hd⟩ := hg
    rw [hj]
    have hr := he t (by simp [Step.reads, hgs]) ht
    simp only [Go.yielded, hd, Option.bind_some]
    rw [Array.getD_eq_getD_getElem?, Array.getElem?_eq_getElem (show t < a.tmps.size by omega)] at hr
    rw [Array.getElem?_eq_getElem (show t < a.tmps.size by omega)]
    simp only [Option.getD_some] at hr
    constructor
    · intro h
      generalize a.tmps[t] = u at *
      cases u <;> simp at h
      subst h
      exact vr_bool hr
    · intro h
      rw [h] at hr; simp only [VR] at hr
      rw [hr]; simp

/-- A step that own code has done and the model has not. -/
inductive Pend (s : Step) (r : Rec) (e : Env) (st : St) (σ : Sg) (lo : Nat) : Prop
  | unwanted (h : ¬ s.wanted e) (hv : r.v = .undef)
  | alloc (h : s.wanted e) (hk : s.op.kind = .alloc) (ob : Obj) (mk : Nat → V) (i : Nat) (ha : allocOf s.op e = some (ob, mk)) (hi : r.id = some i) (hv : r.v = mk i) (hm : st.mem i = some ob) (hσ : σ i = none) (hlo : lo ≤ i)
  | read (h : s.wanted e) (hk : s.op.kind = .pure ∨ s.op.kind = .read) (hs : step1 s.op e st = some (r.v, st))

def envAt (H : List Rec) (e0 : Env) (q : Nat) : Env := cur (fun j => decide (j < q)) 0 H e0

/-- In the midst of a region. -/
structure RInv (S : Seat) (fns : Nat → Prop) (n : Nat) (ops : Array Oper) (L : List Step) (ord : List Nat) (e0 : Env) (σ0 : Sg) (st0 : St) (w0 : World) (rest : List Nat) (H : List Rec) (σ : Sg) (st : St) (a : Go.Act) (w : World) : Prop where
  left : Left ops ord rest H.length
  len : H.length ≤ L.length
  dst : ∀ (q : Nat) r s, H[q]? = some r → L[q]? = some s → r.dst = s.dst
  ids : ∀ (q : Nat) r i, H[q]? = some r → r.id = some i → i < st.next ∧ ∀ (q' : Nat) r', H[q']? = some r' → r'.id = some i → q' = q
  pend : ∀ (q : Nat) r s i, H[q]? = some r → L[q]? = some s → ord[q]? = some i → i ∈ rest → Pend s r (envAt H e0 q) st σ st0.next
  size : n ≤ a.tmps.size
  tmps : ∀ d, d < n → VR S σ (cur (isDone ord rest) 0 H e0 d) (a.tmps.getD d Go.undef)
  rel : Rel S fns σ st w
  goes : Goes σ0 st0 w0 σ st w

section
variable {e0 : Env} {σ0 : Sg} {st0 : St} {w0 : World} {H : List Rec} {a : Go.Act} {i q : Nat}

theorem step_opnds {o : Oper} {s : Step} (hs : StepM S fns n ops o s) {d : Nat} (h : d ∈ s.op.opnds.flatMap X.tmps) : d ∈ s.reads := by
  unfold Step.reads; exact List.mem_append.2 (.inl h)

theorem flush1 (hτ : ∀ a b, S.τ a = S.τ b → a = b) (hO : RegOk S fns n ops L ord) (I : RInv S fns n ops L ord e0 σ0 st0 w0 (i :: rest) H σ st a w) (hq : ord[q]? = some i) (hlt : q < H.length) :
    ∃ σ' w' a', a'.defers = a.defers ∧ RInv S fns n ops L ord e0 σ0 st0 w0 rest H σ' st a' w' ∧
      ∀ (b : Go.Frame) k cs, Go.step S.P (Go.lone (b.atR a (.inRegion ops (i :: rest) :: k)) cs w) = .next (Go.lone (b.atR a' (.inRegion ops rest :: k)) cs w') := by
  obtain ⟨r, hr⟩ : ∃ r, H[q]? = some r := ⟨_, List.getElem?_eq_getElem hlt⟩
  obtain ⟨_, s, _, hs⟩ := pos_of hO I.len hr
  obtain ⟨o, ho, hM⟩ := hO.step q i s hq hs
  have hreads : ∀ d, d ∈ s.reads → d < n → VR S σ (envAt H e0 q d) (a.tmps.getD d Go.undef) := by
    intro d hd hn
    have := I.tmps d hn
    rw [reads_now hO I.len I.dst I.left hq hs e0 hd] at this
    exact this
  have hwant := wanted_iff (a := a) hM I.size hreads
  have hvs : VRs S σ (s.op.opnds.map (·.ev (envAt H e0 q))) (o.op.operands.toList.map a.eval) := evs_rel I.rel hM.2.2.2.1 fun d hd hn => hreads d (step_opnds hM hd) hn
  have hdst : ∀ x, o.dst = some x → x < a.tmps.size := fun x hx => Nat.lt_of_lt_of_le (hM.2.1 x (by rw [hM.1]; exact hx)) I.size
  have hrd : r.dst = o.dst := by rw [I.dst q r s hr hs, hM.1]
  have fin : ∀ {σ' : Sg} {w' : World} {u : Value}, σ.le σ' → VR S σ' r.v u → Rel S fns σ' st w' → Goes σ0 st0 w0 σ' st w' →
      (∀ (p : Nat) r' i', H[p]? = some r' → p ≠ q → r'.id = some i' → σ i' = none → σ' i' = none) →
      RInv S fns n ops L ord e0 σ0 st0 w0 rest H σ' st (a.put o.dst u) w' := by
    intro σ' w' u hle hv hrel hgo hid
    constructor
    · exact I.left.tail hO.nd hq hlt
    · exact I.len
    · exact I.dst
    · exact I.ids
    · intro p r' s' i' h1 h2 h3 h4
      have hpq : p ≠ q := by
        intro h; subst h
        rw [hq] at h3; cases h3
        exact (List.nodup_cons.1 I.left.nd).1 h4
      rcases I.pend p r' s' i' h1 h2 h3 (List.mem_cons_of_mem _ h4) with ⟨g1, g2⟩ | ⟨g1, g2, ob, mk, x, g3, g4, g5, g6, g7, g8⟩ | ⟨g1, g2, g3⟩
      · exact .unwanted g1 g2
      · exact .alloc g1 g2 ob mk x g3 g4 g5 g6 (hid p r' x h1 hpq g4 g7) g8
      · exact .read g1 g2 g3
    · rw [(put_getD a o.dst u 0 hdst).1]; exact I.size
    · intro d hd
      rw [(put_getD a o.dst u d hdst).2, cur_next hO I.len I.dst I.left hq hr, hrd]
      split
      · exact hv
      · exact (I.tmps d hd).le hle
    · exact hrel
    · exact hgo
  rcases I.pend q r s i hr hs hq (by simp) with ⟨g1, g2⟩ | ⟨g1, g2, ob, mk, x, g3, g4, g5, g6, g7, g8⟩ | ⟨g1, g2, g3⟩
  · have hnw : ¬ Go.Region.wanted o (Go.yielded ops a.tmps) = true := fun h => g1 (hwant.1 h)
    refine ⟨σ, w, a.put o.dst Go.undef, ?_, fin (Sg.le_refl σ) (by rw [g2]; exact vr_undef σ) I.rel I.goes (fun _ _ _ _ _ _ h => h), fun b k cs => ?_⟩
    · cases o.dst <;> rfl
    · have := Go.stepR_op_skip (P := S.P) (b := b) (a := a) (k := k) (cs := cs) (w := w) (ops := ops) (i := i) (rest := rest) (by simp [ho]; simpa using hnw)
      simpa [ho] using this
  · obtain ⟨x', d, u, sz, tot, hrun, hlay⟩ := lays g2 I.rel hM.2.2.1 hvs g3
    have hle := Sg.put_le (σ := σ) (l := ⟨w.heap.size, 0, sz, tot⟩) g7
    obtain ⟨k1, k2⟩ := hlay (σ.put x ⟨w.heap.size, 0, sz, tot⟩) x hle (Sg.put_same _ _ _)
    refine ⟨σ.put x ⟨w.heap.size, 0, sz, tot⟩, { w with heap := w.heap.push x', drawn := d }, a.put o.dst u, ?_, fin hle (by rw [g5]; exact k1) ?_ ?_ ?_, fun b k cs => ?_⟩
    · cases o.dst <;> rfl
    · exact (I.rel.drawn d).put g6 g7 x' 0 sz tot k2 (fun _ => rfl)
    · exact (I.goes.drawn d).put g7 g8 x' 0 sz tot
    · intro p r' i' h1 hpq h2 h3
      unfold Sg.put
      rw [if_neg]
      · exact h3
      · intro he; subst he
        exact hpq ((I.ids q r i' hr g4).2 p r' h1 h2)
    · exact stepR_value ho (hwant.2 g1) (opSh_defer hM.2.2.1) (.inl hrun)
  · obtain ⟨u, w', σ', hrun, k1, k2, k3⟩ := does_all hτ (by rcases g2 with h | h <;> simp [h]) I.rel hM.2.2.1 hvs g3
    refine ⟨σ', w', a.put o.dst u, ?_, fin k3.le k1 k2 (I.goes.trans k3) ?_, fun b k cs => stepR_value ho (hwant.2 g1) (opSh_defer hM.2.2.1) hrun⟩
    · cases o.dst <;> rfl
    · intro p r' i' h1 _ h2 h3
      cases hn : σ' i' with
      | none => rfl
      | some l =>
        have := (k3.new i' l h3 hn).1
        have := (I.ids p r' i' h1 h2).1
        omega

end

end Cub

/- A region's steps, one after the other. -/
namespace Cub
open Go (Value World Addr TypeId FuncId Program Oper Operand Sem Result)
variable {S : Seat} {fns : Nat → Prop} {n : Nat} {ops : Array Oper} {L : List Step} {ord rest : List Nat} {σ : Sg} {st st' : St} {w : World}
variable {e0 : Env} {σ0 : Sg} {st0 : St} {w0 : World} {H : List Rec} {a : Go.Act}

theorem envAt_push (H : List Rec) (r : Rec) (e0 : Env) {q : Nat} (hq : q ≤ H.length) : envAt (H ++ [r]) e0 q = envAt H e0 q := by
  unfold envAt
  rw [cur_append, if_neg (by simp; omega)]
theorem envAt_last (H : List Rec) (e0 : Env) : envAt H e0 H.length = cur (fun _ => true) 0 H e0 := by
  funext d
  have := cur_all H 0 e0 d
  simpa [envAt] using this

theorem get_push {H : List Rec} {r x : Rec} {q : Nat} (h : (H ++ [r])[q]? = some x) : (q < H.length ∧ H[q]? = some x) ∨ (q = H.length ∧ x = r) := by
  rw [List.getElem?_append] at h
  split at h
  · rename_i hq; exact .inl ⟨hq, h⟩
  · rename_i hq
    cases hk : q - H.length with
    | zero => rw [hk] at h; simp at h; exact .inr ⟨by omega, h.symm⟩
    | succ k => rw [hk] at h; simp at h

/-- A step that is done in own code alone. -/
theorem RInv.push (hO : RegOk S fns n ops L ord) (I : RInv S fns n ops L ord e0 σ0 st0 w0 rest H σ st a w) {s : Step} (hs : L[H.length]? = some s) {r : Rec} (hd : r.dst = s.dst)
    (hm : ∀ i o, st.mem i = some o → st'.mem i = some o) (hrel : Rel S fns σ st' w) (hgo : Goes σ0 st0 w0 σ st' w) (hnx : st.next ≤ st'.next)
    (hid : ∀ i, r.id = some i → st.next ≤ i ∧ i < st'.next) (hp : Pend s r (envAt H e0 H.length) st' σ st0.next) :
    RInv S fns n ops L ord e0 σ0 st0 w0 rest (H ++ [r]) σ st' a w where
  left := by rw [List.length_append]; exact I.left.more
  len := by
    have := (List.getElem?_eq_some_iff.1 hs).1
    simp; omega
  dst q x t h1 h2 := by
    rcases get_push h1 with ⟨_, h⟩ | ⟨rfl, rfl⟩
    · exact I.dst q x t h h2
    · rw [hs] at h2; cases h2; exact hd
  ids q x i h1 h2 := by
    rcases get_push h1 with ⟨hq, h⟩ | ⟨rfl, rfl⟩
    · obtain ⟨k1, k2⟩ := I.ids q x i h h2
      refine ⟨by omega, fun q' x' h3 h4 => ?_⟩
      rcases get_push h3 with ⟨hq', h'⟩ | ⟨rfl, rfl⟩
      · exact k2 q' x' h' h4
      · have := (hid i h4).1; omega
    · obtain ⟨k1, k2⟩ := hid i h2
      refine ⟨k2, fun q' x' h3 h4 => ?_⟩
      rcases get_push h3 with ⟨hq', h'⟩ | ⟨rfl, rfl⟩
      · have := (I.ids q' x' i h' h4).1; omega
      · rfl
  pend q x t i h1 h2 h3 h4 := by
    rcases get_push h1 with ⟨hq, h⟩ | ⟨rfl, rfl⟩
    · rw [envAt_push H r e0 (by omega)]
      rcases I.pend q x t i h h2 h3 h4 with ⟨g1, g2⟩ | ⟨g1, g2, ob, mk, y, g3, g4, g5, g6, g7, g8⟩ | ⟨g1, g2, g3⟩
      · exact .unwanted g1 g2
      · exact .alloc g1 g2 ob mk y g3 g4 g5 (hm _ _ g6) g7 g8
      · refine .read g1 g2 ?_
        rcases g2 with g2 | g2
        · exact step1_pure g2 g3 _
        · exact step1_mono g2 hm g3
    · rw [hs] at h2; cases h2
      rw [envAt_push H x e0 (Nat.le_refl _)]
      exact hp
  size := I.size
  tmps d hd := by
    rw [cur_append, Nat.zero_add, if_neg]
    · exact I.tmps d hd
    · have h1 : H.length < ord.length := by rw [hO.len]; exact (List.getElem?_eq_some_iff.1 hs).1
      rw [isDone_of (List.getElem?_eq_getElem h1)]
      have := I.left.fut H.length _ (Nat.le_refl _) (List.getElem?_eq_getElem h1)
      simpa using this
  rel := hrel
  goes := hgo

/-- All that is pending and stands ahead of an effect is done. -/
theorem flush_to (hτ : ∀ a b, S.τ a = S.τ b → a = b) (hO : RegOk S fns n ops L ord) {s : Step} (hs : L[H.length]? = some s) (he : s.op.kind = .eff) {i : Nat} (hi : ord[H.length]? = some i) :
    ∀ {rest : List Nat} {σ : Sg} {a : Go.Act} {w : World}, RInv S fns n ops L ord e0 σ0 st0 w0 rest H σ st a w →
    ∃ post σ' w' a', a'.defers = a.defers ∧ RInv S fns n ops L ord e0 σ0 st0 w0 (i :: post) H σ' st a' w' ∧
      ∀ (b : Go.Frame) k cs, Go.Steps S.P (Go.lone (b.atR a (.inRegion ops rest :: k)) cs w) (Go.lone (b.atR a' (.inRegion ops (i :: post) :: k)) cs w')
  | [], σ, a, w, I => by have := I.left.fut _ _ (Nat.le_refl _) hi; cases this
  | j :: rest, σ, a, w, I => by
    by_cases hj : j = i
    · subst hj; exact ⟨rest, σ, w, a, rfl, I, fun b k cs => .refl _ _⟩
    · have hmem := I.left.fut _ _ (Nat.le_refl _) hi
      obtain ⟨q, hq⟩ := List.mem_iff_getElem?.1 (I.left.sub j (by simp))
      have hlt : q < H.length := by
        refine Decidable.byContradiction fun hc => ?_
        have hne : q ≠ H.length := fun h => by subst h; rw [hi] at hq; cases hq; exact hj rfl
        have h1 : q < L.length := by rw [← hO.len]; exact (List.getElem?_eq_some_iff.1 hq).1
        have := (hO.pair H.length q i j s L[q] (by omega) hi hq hs (List.getElem?_eq_getElem h1)).2.1 he
        exact I.left.oko.1 i hmem this
      obtain ⟨σ', w', a', h1, h2, h3⟩ := flush1 hτ hO I hq hlt
      obtain ⟨post, σ'', w'', a'', k1, k2, k3⟩ := flush_to hτ hO hs he hi h2
      exact ⟨post, σ'', w'', a'', k1.trans h1, k2, fun b k cs => .head (h3 b k cs) (k3 b k cs)⟩

/-- All that is pending is done. -/
theorem flush_all (hτ : ∀ a b, S.τ a = S.τ b → a = b) (hO : RegOk S fns n ops L ord) (hl : H.length = L.length) :
    ∀ {rest : List Nat} {σ : Sg} {a : Go.Act} {w : World}, RInv S fns n ops L ord e0 σ0 st0 w0 rest H σ st a w →
    ∃ σ' w' a', a'.defers = a.defers ∧ RInv S fns n ops L ord e0 σ0 st0 w0 [] H σ' st a' w' ∧
      ∀ (b : Go.Frame) k cs, Go.Steps S.P (Go.lone (b.atR a (.inRegion ops rest :: k)) cs w) (Go.lone (b.atR a' (.inRegion ops [] :: k)) cs w')
  | [], σ, a, w, I => ⟨σ, w, a, rfl, I, fun b k cs => .refl _ _⟩
  | j :: rest, σ, a, w, I => by
    obtain ⟨q, hq⟩ := List.mem_iff_getElem?.1 (I.left.sub j (by simp))
    have hlt : q < H.length := by rw [hl, ← hO.len]; exact (List.getElem?_eq_some_iff.1 hq).1
    obtain ⟨σ', w', a', h1, h2, h3⟩ := flush1 hτ hO I hq hlt
    obtain ⟨σ'', w'', a'', k1, k2, k3⟩ := flush_all hτ hO hl h2
    exact ⟨σ'', w'', a'', k1.trans h1, k2, fun b k cs => .head (h3 b k cs) (k3 b k cs)⟩

theorem cur_none (H : List Rec) (q : Nat) (e : Env) (d : Nat) {P : Nat → Bool} (h : ∀ i r, H[i]? = some r → r.dst = some d → P (q + i) = true) : cur P q H e d = cur (fun _ => true) q H e d :=
  cur_congr H q e e rfl h

theorem RInv.done (hO : RegOk S fns n ops L ord) (I : RInv S fns n ops L ord e0 σ0 st0 w0 [] H σ st a w) : EnvR S n σ (cur (fun _ => true) 0 H e0) a.tmps := by
  refine ⟨I.size, fun d hd => ?_⟩
  have := I.tmps d hd
  rw [cur_none H 0 e0 d] at this
  · exact this
  · intro i r h _
    obtain ⟨j, s, hj, _⟩ := pos_of hO I.len h
    rw [Nat.zero_add, isDone_of hj]; rfl

/-- An effect, in both. -/
theorem eff_fin (hO : RegOk S fns n ops L ord) {i : Nat} {post : List Nat} (I : RInv S fns n ops L ord e0 σ0 st0 w0 (i :: post) H σ st a w) {s : Step} (hs : L[H.length]? = some s) (he : s.op.kind = .eff) (hi : ord[H.length]? = some i)
    {o : Oper} (hM : StepM S fns n ops o s) {v : V} {u : Value} {σ' : Sg} {w' : World} (hv : VR S σ' v u) (hrel : Rel S fns σ' st' w') (hgo : Goes σ st w σ' st' w')
    (hst : ∀ r ∈ s.stable, Same r (cur (fun _ => true) 0 H e0) st st') :
    RInv S fns n ops L ord e0 σ0 st0 w0 post (H ++ [⟨s.dst, v, none⟩]) σ' st' (a.put o.dst u) w' := by
  have hlt := (List.getElem?_eq_some_iff.1 hs).1
  have hL2 : Left ops ord (i :: post) (H ++ [(⟨s.dst, v, none⟩ : Rec)]).length := by rw [List.length_append]; exact I.left.more
  have hlen2 : (H ++ [(⟨s.dst, v, none⟩ : Rec)]).length ≤ L.length := by simp; omega
  have hdst2 : ∀ (q : Nat) x t, (H ++ [(⟨s.dst, v, none⟩ : Rec)])[q]? = some x → L[q]? = some t → x.dst = t.dst := by
    intro q x t h1 h2
    rcases get_push h1 with ⟨_, h⟩ | ⟨rfl, rfl⟩
    · exact I.dst q x t h h2
    · rw [hs] at h2; cases h2; rfl
  have hdst : ∀ x, o.dst = some x → x < a.tmps.size := fun x hx => Nat.lt_of_lt_of_le (hM.2.1 x (by rw [hM.1]; exact hx)) I.size
  constructor
  · exact hL2.tail hO.nd hi (by simp)
  · exact hlen2
  · exact hdst2
  · intro q x j h1 h2
    rcases get_push h1 with ⟨_, h⟩ | ⟨rfl, rfl⟩
    · obtain ⟨k1, k2⟩ := I.ids q x j h h2
      have := hgo.next
      refine ⟨by omega, fun q' x' h3 h4 => ?_⟩
      rcases get_push h3 with ⟨_, h'⟩ | ⟨rfl, rfl⟩
      · exact k2 q' x' h' h4
      · cases h4
    · cases h2
  · intro q x t j h1 h2 h3 h4
    rcases get_push h1 with ⟨hq, h⟩ | ⟨rfl, rfl⟩
    · rw [envAt_push H _ e0 (by omega)]
      rcases I.pend q x t j h h2 h3 (List.mem_cons_of_mem _ h4) with ⟨g1, g2⟩ | ⟨g1, g2, ob, mk, y, g3, g4, g5, g6, g7, g8⟩ | ⟨g1, g2, g3⟩
      · exact .unwanted g1 g2
      · have hy := (I.ids q x y h g4).1
        refine .alloc g1 g2 ob mk y g3 g4 g5 ?_ ?_ g8
        · rw [hgo.un y hy g7]; exact g6
        · cases hn : σ' y with
          | none => rfl
          | some l => have := (hgo.new y l g7 hn).1; omega
      · refine .read g1 g2 ?_
        rcases g2 with g2 | g2
        · exact step1_pure g2 g3 _
        · rcases (hO.pair q H.length j i t s hq h3 hi h2 hs).2.2.1 g2 he with hp | ⟨hp, hw⟩
          · exact absurd hp (I.left.oko.1 j (List.mem_cons_of_mem _ h4))
          · have heq : ∀ d, d ∈ t.reads → envAt H e0 q d = cur (fun _ => true) 0 H e0 d := by
              intro d hd
              unfold envAt
              refine cur_congr H 0 e0 e0 rfl fun p r hr hrd => ?_
              rw [Nat.zero_add]
              obtain ⟨_, sp, _, hsp⟩ := pos_of hO I.len hr
              have hpd : sp.dst = some d := by rw [← I.dst p r sp hr hsp]; exact hrd
              have hpl := (List.getElem?_eq_some_iff.1 hr).1
              simp only [decide_eq_true_eq]
              refine Decidable.byContradiction fun hc => ?_
              exact hw p sp (by omega) hpl hsp d hpd hd
            have hev : ∀ z ∈ t.op.opnds, z.ev (envAt H e0 q) = z.ev (cur (fun _ => true) 0 H e0) := by
              intro z hz
              cases z with
              | t m => exact heq m (by
                  unfold Step.reads
                  exact List.mem_append.2 (.inl (List.mem_flatMap.2 ⟨_, hz, by simp [X.tmps]⟩)))
              | _ => rfl
            rw [step1_env hev] at g3 ⊢
            exact hst _ hp _ g3
    · rw [hi] at h3; cases h3
      exact absurd h4 (List.nodup_cons.1 I.left.nd).1
  · rw [(put_getD a o.dst u 0 hdst).1]; exact I.size
  · intro d hd
    rw [(put_getD a o.dst u d hdst).2, cur_next hO hlen2 hdst2 hL2 hi (r := ⟨s.dst, v, none⟩) (by simp), ← hM.1]
    split
    · exact hv
    · rw [cur_append, Nat.zero_add, if_neg]
      · exact (I.tmps d hd).le hgo.le
      · rw [isDone_of hi]; simp
  · exact hrel
  · exact I.goes.trans hgo

end Cub

/- What own code's meaning says of the model. -/
namespace Cub
open Go (Value World Addr TypeId FuncId Program Oper Operand Sem Result)

/-- The marks of loops over functions, which a frame keeps until it is left. -/
def DefOk (lo : Nat) (σ : Sg) (w : World) (ds : List Go.Deferred) : Prop :=
  lo ≤ w.heap.size ∧ ∃ rs : List Nat, rs.Nodup ∧ ds = rs.map (fun r => { target := .collected r, args := #[] }) ∧ ∀ r ∈ rs, lo ≤ r ∧ w.heap[r]? = some (.deferred (some [])) ∧ ∀ i l, σ i = some l → l.blk ≠ r

theorem DefOk.goes {lo : Nat} {σ σ' : Sg} {st st' : St} {w w' : World} {ds : List Go.Deferred} (h : DefOk lo σ w ds) (g : Goes σ st w σ' st' w') : DefOk lo σ' w' ds := by
  obtain ⟨h0, rs, h1, h2, h3⟩ := h
  refine ⟨Nat.le_trans h0 g.size, rs, h1, h2, fun r hr => ?_⟩
  obtain ⟨hlo, h4, h5⟩ := h3 r hr
  have hlt : r < w.heap.size := (Array.getElem?_eq_some_iff.1 h4).1
  refine ⟨hlo, by rw [g.keep r hlt (fun i l hl _ => h5 i l hl)]; exact h4, fun i l hl => ?_⟩
  cases hi : σ i with
  | some m =>
    have := g.le i m hi
    rw [hl] at this; cases this
    exact h5 i l hi
  | none =>
    rcases (g.new i l hi hl).2 with h6 | ⟨j, m, e1, e2, _⟩
    · omega
    · rw [← e2]; exact h5 j m e1

/-- A frame that own code runs in. -/
def FrOk (b : Go.Frame) (w : World) : Prop := b.kind = .normal ∧ ∀ l, b.roundOf = some l → ∃ r : Go.Loop, w.heap[l]? = some (Go.Obj.loop r)
theorem FrOk.goes {b : Go.Frame} {σ σ' : Sg} {st st' : St} {w w' : World} (h : FrOk b w) (g : Goes σ st w σ' st' w') : FrOk b w' := by
  refine ⟨h.1, fun l hl => ?_⟩
  obtain ⟨r, hr⟩ := h.2 l hl
  obtain ⟨r', hr', _⟩ := g.loop l r hr
  exact ⟨r', hr'⟩

/-- How the todo stands when code has been left. -/
def Ends (o : Out) (k m : List Go.Item) : Prop := match o with
  | .normal => m = k
  | .ret => ∃ k1, m = .code .ret :: k1
  | .exit id => ∃ k1, m = .code (.exit id) :: k1 ∧ Go.exitTo id k1 = Go.exitTo id k
  | .goto l => ∃ k1, m = .code (.goto l) :: k1 ∧ Go.gotoIn l k1 = Go.gotoIn l k

/-- Where code starts: a loop, in its body. -/
def start (c : Go.Code) (k : List Go.Item) : List Go.Item := match c with
  | .loop body => .code body :: .inLoop body :: k
  | c => .code c :: k

section
variable (S : Seat) (fns : Nat → Prop)

/-- A todo list leads to an end of which Q holds. -/
def Leads (lo n : Nat) (items : List Go.Item) (k : List Go.Item) (b : Go.Frame) (cs : List Go.Frame) (fr : Fr) (σ : Sg) (st : St) (a : Go.Act) (w : World) (Q : Rs → St → Prop) : Prop :=
  ∃ o fr' st' σ' a' w' m, Q (.code o fr') st' ∧ EnvR S n σ' fr'.env a'.tmps ∧ Rel S fns σ' st' w' ∧ Goes σ st w σ' st' w' ∧ DefOk lo σ' w' a'.defers ∧ Ends o k m ∧
    Go.Steps S.P (Go.lone (b.atR a items) cs w) (Go.lone (b.atR a' m) cs w')

def CodeS (c : Code) (fr : Fr) (st : St) (Q : Rs → St → Prop) : Prop :=
  ∀ (lo n : Nat) (c' : Go.Code) (σ : Sg) (a : Go.Act) (w : World) (b : Go.Frame) (k : List Go.Item) (cs : List Go.Frame),
    CodeM S fns n c' c → EnvR S n σ fr.env a.tmps → Rel S fns σ st w → DefOk lo σ w a.defers → FrOk b w → Leads S fns lo n (start c' k) k b cs fr σ st a w Q

def ScopeS (c d : Code) (fr : Fr) (st : St) (Q : Rs → St → Prop) : Prop :=
  ∀ (lo n : Nat) (c' d' : Go.Code) (σ : Sg) (a : Go.Act) (w : World) (b : Go.Frame) (k : List Go.Item) (cs : List Go.Frame),
    CodeM S fns n c' c → CodeM S fns n d' d → EnvR S n σ fr.env a.tmps → Rel S fns σ st w → DefOk lo σ w a.defers → FrOk b w → Leads S fns lo n (.code d' :: .inScope c' :: k) k b cs fr σ st a w Q

def StepsS (l : List Step) (fr : Fr) (st : St) (Q : Rs → St → Prop) : Prop :=
  ∀ (n : Nat) (ops : Array Oper) (L : List Step) (ord : List Nat) (e0 : Env) (σ0 : Sg) (st0 : St) (w0 : World) (rest : List Nat) (H : List Rec) (σ : Sg) (a : Go.Act) (w : World) (b : Go.Frame) (k : List Go.Item) (cs : List Go.Frame),
    RegOk S fns n ops L ord → l = L.drop H.length → fr.env = cur (fun _ => true) 0 H e0 → RInv S fns n ops L ord e0 σ0 st0 w0 rest H σ st a w →
    ∃ fr' st' σ' a' w', Q (.code .normal fr') st' ∧ EnvR S n σ' fr'.env a'.tmps ∧ Rel S fns σ' st' w' ∧ Goes σ0 st0 w0 σ' st' w' ∧ a'.defers = a.defers ∧
      Go.Steps S.P (Go.lone (b.atR a (.inRegion ops rest :: k)) cs w) (Go.lone (b.atR a' (.inRegion ops [] :: k)) cs w')

def CallS (f : Nat) (args : List V) (st : St) (Q : Rs → St → Prop) : Prop :=
  (∃ fn, S.P.funcs[S.φ f]? = some fn ∧ fn.body.isSome = true ∧ fn.name ≠ "runtime.NumGoroutine") ∧
  ∀ (args' : Array Value) (σ : Sg) (w : World) (cs : List Go.Frame), VRs S σ args args'.toList → Rel S fns σ st w →
    ∃ v st' σ' u w' fr, Q (.vals v) st' ∧ VR S σ' v u ∧ Rel S fns σ' st' w' ∧ Goes σ st w σ' st' w' ∧
      Go.Steps S.P (Go.lone (Go.Frame.enter S.P (S.φ f) args' .normal) cs w) (Go.lone fr cs w') ∧ fr.fn = S.φ f ∧ fr.leaving S.P w' (.returned u)

/-- The frame that a call lays. -/
def Lands (P : Program) (nx : Go.Next) (fr : Go.Frame) : Prop := match nx with
  | .enter f args => fr = Go.Frame.enter P f args .normal
  | .round l fn tmps assign body => fr = Go.Frame.round l fn tmps assign body .normal
  | _ => False

def CallvS (f : V) (args : List V) (st : St) (Q : Rs → St → Prop) : Prop :=
  ∀ (f' : Value) (args' : Array Value) (σ : Sg) (w : World) (c : Go.Frame) (cs : List Go.Frame), VR S σ f f' → VRs S σ args args'.toList → Rel S fns σ st w →
    ∃ d nx fr v st' σ' u w', (Go.Deferred.ofValue f' args').run S.P w = Result.ok d w ∧ (Go.invoke d.target d.args).run S.P w = Result.ok nx w ∧ Lands S.P nx fr ∧
      Q (.vals v) st' ∧ VR S σ' v u ∧ Rel S fns σ' st' w' ∧ Goes σ st w σ' st' w' ∧ Go.Steps S.P (Go.lone fr (c :: cs) w) (Go.lone (c.finish u) cs w')
end

variable {S : Seat} {fns : Nat → Prop} {lo n : Nat} {σ : Sg} {st st' : St} {w : World} {fr : Fr} {Q Q1 : Rs → St → Prop}

theorem Leads.steps {items items' k : List Go.Item} {b : Go.Frame} {cs : List Go.Frame} {a : Go.Act} (h : Go.Steps S.P (Go.lone (b.atR a items) cs w) (Go.lone (b.atR a items') cs w)) (g : Leads S fns lo n items' k b cs fr σ st a w Q) :
    Leads S fns lo n items k b cs fr σ st a w Q := by
  obtain ⟨o, fr', st', σ', a', w', m, h1, h2, h3, h4, h5, h6, h7⟩ := g
  exact ⟨o, fr', st', σ', a', w', m, h1, h2, h3, h4, h5, h6, h.trans h7⟩

theorem to_start (c : Go.Code) (k : List Go.Item) (b : Go.Frame) (cs : List Go.Frame) (a : Go.Act) (w : World) : Go.Steps S.P (Go.lone (b.atR a (.code c :: k)) cs w) (Go.lone (b.atR a (start c k)) cs w) := by
  cases c <;> first | exact .refl _ _ | exact .one Go.stepR_loop

theorem codeS_seq {x y : Code} (h1 : CodeS S fns x fr st Q1) (hn : ∀ fr' st', Q1 (.code .normal fr') st' → CodeS S fns y fr' st' Q)
    (ho : ∀ o fr' st', o ≠ .normal → Q1 (.code o fr') st' → Q (.code o fr') st') : CodeS S fns (.seq x y) fr st Q := by
  intro lo n c' σ a w b k cs hc he hR hd hb
  cases c' <;> simp only [CodeM] at hc
  rename_i x' y'
  obtain ⟨o, fr', st', σ', a', w', m, g1, g2, g3, g4, g5, g6, g7⟩ := h1 lo n x' σ a w b (.code y' :: k) cs hc.1 he hR hd hb
  have hs : Go.Steps S.P (Go.lone (b.atR a (.code (.seq x' y') :: k)) cs w) (Go.lone (b.atR a' m) cs w') := .head Go.stepR_seq ((to_start _ _ _ _ _ _).trans g7)
  by_cases hno : o = .normal
  · subst hno
    simp only [Ends] at g6; subst g6
    obtain ⟨o2, fr2, st2, σ2, a2, w2, m2, k1, k2, k3, k4, k5, k6, k7⟩ := hn fr' st' g1 lo n y' σ' a' w' b k cs hc.2 g2 g3 g5 (hb.goes g4)
    exact ⟨o2, fr2, st2, σ2, a2, w2, m2, k1, k2, k3, g4.trans k4, k5, k6, hs.trans ((to_start _ _ _ _ _ _).trans k7)⟩
  · refine ⟨o, fr', st', σ', a', w', m, ho o fr' st' hno g1, g2, g3, g4, g5, ?_, hs⟩
    cases o with
    | normal => exact absurd rfl hno
    | ret => exact g6
    | exit id => exact g6
    | goto l => exact g6


theorem Leads.here {k items : List Go.Item} {b : Go.Frame} {cs : List Go.Frame} {a : Go.Act} {o : Out} (hq : Q (.code o fr) st) (he : EnvR S n σ fr.env a.tmps) (hR : Rel S fns σ st w) (hd : DefOk lo σ w a.defers) {m : List Go.Item} (hm : Ends o k m)
    (h : Go.Steps S.P (Go.lone (b.atR a items) cs w) (Go.lone (b.atR a m) cs w)) : Leads S fns lo n items k b cs fr σ st a w Q :=
  ⟨o, fr, st, σ, a, w, m, hq, he, hR, Goes.refl _ _ _, hd, hm, h⟩

theorem codeS_skip (h : Q (.code .normal fr) st) : CodeS S fns .skip fr st Q := by
  intro lo n c' σ a w b k cs hc he hR hd hb
  cases c' <;> simp only [CodeM] at hc
  exact .here h he hR hd (m := k) rfl (.one Go.stepR_skip)
theorem codeS_label {l : Nat} (h : Q (.code .normal fr) st) : CodeS S fns (.label l) fr st Q := by
  intro lo n c' σ a w b k cs hc he hR hd hb
  cases c' <;> simp only [CodeM] at hc
  exact .here h he hR hd (m := k) rfl (.one Go.stepR_label)
theorem codeS_exit {l : Nat} (h : Q (.code (.exit l) fr) st) : CodeS S fns (.exit l) fr st Q := by
  intro lo n c' σ a w b k cs hc he hR hd hb
  cases c' <;> simp only [CodeM] at hc
  subst hc
  exact .here h he hR hd (m := _) ⟨k, rfl, rfl⟩ (.refl _ _)
theorem codeS_goto {l : Nat} (h : Q (.code (.goto l) fr) st) : CodeS S fns (.goto l) fr st Q := by
  intro lo n c' σ a w b k cs hc he hR hd hb
  cases c' <;> simp only [CodeM] at hc
  subst hc
  exact .here h he hR hd (m := _) ⟨k, rfl, rfl⟩ (.refl _ _)
theorem codeS_ret (h : Q (.code .ret fr) st) : CodeS S fns .ret fr st Q := by
  intro lo n c' σ a w b k cs hc he hR hd hb
  cases c' <;> simp only [CodeM] at hc
  exact .here h he hR hd (m := _) ⟨k, rfl⟩ (.refl _ _)

theorem codeS_cond {c : X} {x y : Code} {t : Bool} (hc0 : c.ev fr.env = .bool t) (h : CodeS S fns (if t then x else y) fr st Q) : CodeS S fns (.cond c x y) fr st Q := by
  intro lo n c' σ a w b k cs hc he hR hd hb
  cases c' <;> simp only [CodeM] at hc
  rename_i p x' y'
  obtain ⟨h1, h2, h3⟩ := hc
  have hv := ev_rel hR h1 fun d hd hn => he.2 d hn
  rw [hc0] at hv; simp only [VR] at hv
  have := h lo n (if t then x' else y') σ a w b k cs (by cases t <;> assumption) he hR hd hb
  exact .steps ((Go.Steps.one (Go.stepR_cond hv)).trans (to_start _ _ _ _ _ _)) this

theorem codeS_block {id : Nat} {c : Code} (h1 : CodeS S fns c fr st Q1) (h : ∀ o fr' st', Q1 (.code o fr') st' → Q (.code (if o = .exit id then .normal else o) fr') st') : CodeS S fns (.block id c) fr st Q := by
  intro lo n c' σ a w b k cs hc he hR hd hb
  cases c' <;> simp only [CodeM] at hc
  rename_i id' x'
  obtain ⟨rfl, hc⟩ := hc
  obtain ⟨o, fr', st', σ', a', w', m, g1, g2, g3, g4, g5, g6, g7⟩ := h1 lo n x' σ a w b (.inBlock id' :: k) cs hc he hR hd hb
  have hs : Go.Steps S.P (Go.lone (b.atR a (.code (.block id' x') :: k)) cs w) (Go.lone (b.atR a' m) cs w') := .head Go.stepR_block ((to_start _ _ _ _ _ _).trans g7)
  have hq := h o fr' st' g1
  cases o with
  | normal =>
    simp only [Ends] at g6; subst g6
    exact ⟨.normal, fr', st', σ', a', w', k, by simpa using hq, g2, g3, g4, g5, rfl, hs.trans (.one Go.stepR_inBlock)⟩
  | ret => exact ⟨.ret, fr', st', σ', a', w', m, by simpa using hq, g2, g3, g4, g5, g6, hs⟩
  | goto l => exact ⟨.goto l, fr', st', σ', a', w', m, by simpa using hq, g2, g3, g4, g5, g6, hs⟩
  | exit i =>
    obtain ⟨k1, rfl, hk⟩ := g6
    by_cases hi : i = id'
    · subst hi
      refine ⟨.normal, fr', st', σ', a', w', k, by simpa using hq, g2, g3, g4, g5, rfl, hs.trans (.one (Go.stepR_exit ?_))⟩
      rw [hk]; simp [Go.exitTo]
    · refine ⟨.exit i, fr', st', σ', a', w', _, by simpa [hi] using hq, g2, g3, g4, g5, ⟨k1, rfl, ?_⟩, hs⟩
      rw [hk]; simp [Go.exitTo, Ne.symm hi]

theorem codeS_loop {c : Code} (h1 : CodeS S fns c fr st Q1) (hn : ∀ fr' st', Q1 (.code .normal fr') st' → CodeS S fns (.loop c) fr' st' Q)
    (ho : ∀ o fr' st', o ≠ .normal → Q1 (.code o fr') st' → Q (.code o fr') st') : CodeS S fns (.loop c) fr st Q := by
  intro lo n c' σ a w b k cs hc he hR hd hb
  cases c' <;> simp only [CodeM] at hc
  rename_i x'
  obtain ⟨o, fr', st', σ', a', w', m, g1, g2, g3, g4, g5, g6, g7⟩ := h1 lo n x' σ a w b (.inLoop x' :: k) cs hc he hR hd hb
  have hs : Go.Steps S.P (Go.lone (b.atR a (start (.loop x') k)) cs w) (Go.lone (b.atR a' m) cs w') := (to_start _ _ _ _ _ _).trans g7
  by_cases hno : o = .normal
  · subst hno
    simp only [Ends] at g6; subst g6
    obtain ⟨o2, fr2, st2, σ2, a2, w2, m2, k1, k2, k3, k4, k5, k6, k7⟩ := hn fr' st' g1 lo n (.loop x') σ' a' w' b k cs (by simpa only [CodeM] using hc) g2 g3 g5 (hb.goes g4)
    exact ⟨o2, fr2, st2, σ2, a2, w2, m2, k1, k2, k3, g4.trans k4, k5, k6, hs.trans (.head Go.stepR_inLoop k7)⟩
  · refine ⟨o, fr', st', σ', a', w', m, ho o fr' st' hno g1, g2, g3, g4, g5, ?_, hs⟩
    cases o with
    | normal => exact absurd rfl hno
    | ret => exact g6
    | exit id => exact g6
    | goto l => exact g6

theorem codeS_region {l : List Step} (hmix : S.P.follows .mixedOrders = true) (h : StepsS S fns l fr st Q) : CodeS S fns (.region l) fr st Q := by
  intro lo n c' σ a w b k cs hc he hR hd hb
  cases c' <;> simp only [CodeM] at hc
  rename_i id ops d'
  obtain ⟨ord, hO⟩ := hc.ok
  have main : ∀ (sch : List Nat) (w1 : World), Left ops ord sch 0 → Rel S fns σ st w1 → Goes σ st w σ st w1 → Go.Steps S.P (Go.lone (b.atR a (.code (.region id ops d') :: k)) cs w) (Go.lone (b.atR a (.inRegion ops sch :: k)) cs w1) →
      Leads S fns lo n (.code (.region id ops d') :: k) k b cs fr σ st a w Q := by
    intro sch w1 hL hR1 hG hs
    have I : RInv S fns n ops l ord fr.env σ st w sch [] σ st a w1 := by
      refine ⟨hL, by simp, by simp, by simp, by simp, he.1, fun d hd => ?_, hR1, hG⟩
      exact he.2 d hd
    obtain ⟨fr', st', σ', a', w', g1, g2, g3, g4, g5, g6⟩ := h n ops l ord fr.env σ st w sch [] σ a w1 b k cs hO (by simp) rfl I
    exact ⟨.normal, fr', st', σ', a', w', k, g1, g2, g3, g4, by rw [g5]; exact hd.goes g4, rfl, (hs.trans g6).trans (.one Go.stepR_region_end)⟩
  cases d' with
  | false => exact main _ w (left_range hO) hR (Goes.refl _ _ _) (.one Go.stepR_region)
  | true =>
    have := Go.stepR_region_draw (P := S.P) (b := b) (a := a) (k := k) (cs := cs) (w := w) (ops := ops) (id := id)
    rw [hmix] at this
    exact main _ _ (left_schedule hO _) (hR.drawn (w.drawn + 1)) ((Goes.refl σ st w).drawn _) (.one this)

theorem findM {c' : Go.Code} {c : Code} {l : Nat} (h : CodeM S fns n c' c) : match findLabel c l with
    | some r => ∃ r', Go.findLabel c' l = some r' ∧ CodeM S fns n r' r
    | none => Go.findLabel c' l = none := by
  induction c generalizing c' with
  | seq x y ihx ihy =>
    cases c' <;> simp only [CodeM] at h
    have h1 := ihx h.1
    have h2 := ihy h.2
    simp only [findLabel, Go.findLabel]
    cases hx : findLabel x l with
    | some r =>
      rw [hx] at h1
      obtain ⟨r', e, m⟩ := h1
      simp only [e]
      exact ⟨_, rfl, by simpa only [CodeM] using ⟨m, h.2⟩⟩
    | none =>
      rw [hx] at h1
      simp only at h1 ⊢
      rw [h1]
      simpa using h2
  | label m =>
    cases c' <;> simp only [CodeM] at h
    subst h
    simp only [findLabel, Go.findLabel, beq_iff_eq]
    split
    · rename_i r hr
      split at hr
      · rename_i hl; cases hr; exact ⟨.skip, by rw [if_pos hl], by simp only [CodeM]⟩
      · cases hr
    · rename_i hr
      split at hr
      · cases hr
      · rename_i hl; rw [if_neg hl]
  | _ => cases c' <;> simp only [CodeM] at h <;> rfl

theorem stepR_scope {P : Program} {b : Go.Frame} {a : Go.Act} {k : List Go.Item} {cs : List Go.Frame} {c : Go.Code} : Go.step P (Go.lone (b.atR a (.code (.scope c) :: k)) cs w) = .next (Go.lone (b.atR a (.code c :: .inScope c :: k)) cs w) :=
  Go.step_lone_go (by simp [Go.stepG, Go.stepG.exec, Go.Frame.atR])
theorem stepR_inScope {P : Program} {b : Go.Frame} {a : Go.Act} {k : List Go.Item} {cs : List Go.Frame} {c : Go.Code} : Go.step P (Go.lone (b.atR a (.inScope c :: k)) cs w) = .next (Go.lone (b.atR a k) cs w) :=
  Go.step_lone_go (by simp [Go.stepG, Go.stepG.exec, Go.Frame.atR])

theorem codeS_scope {c : Code} (h : ScopeS S fns c c fr st Q) : CodeS S fns (.scope c) fr st Q := by
  intro lo n c' σ a w b k cs hc he hR hd hb
  cases c' <;> simp only [CodeM] at hc
  rename_i x'
  exact .steps (.one stepR_scope) (h lo n x' x' σ a w b k cs hc hc he hR hd hb)

theorem scopeS {c d : Code} (h1 : CodeS S fns d fr st Q1) (hg : ∀ l rest fr' st', Q1 (.code (.goto l) fr') st' → findLabel c l = some rest → ScopeS S fns c rest fr' st' Q)
    (ho : ∀ o fr' st', Q1 (.code o fr') st' → (∀ l, o = .goto l → findLabel c l = none) → Q (.code o fr') st') : ScopeS S fns c d fr st Q := by
  intro lo n c' d' σ a w b k cs hc hc2 he hR hd hb
  obtain ⟨o, fr', st', σ', a', w', m, g1, g2, g3, g4, g5, g6, g7⟩ := h1 lo n d' σ a w b (.inScope c' :: k) cs hc2 he hR hd hb
  have hs : Go.Steps S.P (Go.lone (b.atR a (.code d' :: .inScope c' :: k)) cs w) (Go.lone (b.atR a' m) cs w') := (to_start _ _ _ _ _ _).trans g7
  cases o with
  | normal =>
    simp only [Ends] at g6; subst g6
    exact ⟨.normal, fr', st', σ', a', w', k, ho _ _ _ g1 (fun l h => by cases h), g2, g3, g4, g5, rfl, hs.trans (.one stepR_inScope)⟩
  | ret => exact ⟨.ret, fr', st', σ', a', w', m, ho _ _ _ g1 (fun l h => by cases h), g2, g3, g4, g5, g6, hs⟩
  | exit i => exact ⟨.exit i, fr', st', σ', a', w', m, ho _ _ _ g1 (fun l h => by cases h), g2, g3, g4, g5, g6, hs⟩
  | goto l =>
    obtain ⟨k1, rfl, hk⟩ := g6
    have hf := findM (S := S) (fns := fns) (n := n) (l := l) hc
    cases hl : findLabel c l with
    | some rest =>
      rw [hl] at hf
      obtain ⟨r', e, hm⟩ := hf
      obtain ⟨o2, fr2, st2, σ2, a2, w2, m2, k1', k2, k3, k4, k5, k6, k7⟩ := hg l rest fr' st' g1 hl lo n c' r' σ' a' w' b k cs hc hm g2 g3 g5 (hb.goes g4)
      refine ⟨o2, fr2, st2, σ2, a2, w2, m2, k1', k2, k3, g4.trans k4, k5, k6, hs.trans (.head (Go.stepR_goto (k' := .code r' :: .inScope c' :: k) ?_) k7)⟩
      rw [hk]; simp [Go.gotoIn, e]
    | none =>
      rw [hl] at hf
      simp only at hf
      refine ⟨.goto l, fr', st', σ', a', w', _, ho _ _ _ g1 (fun l' h => by cases h; exact hl), g2, g3, g4, g5, ⟨k1, rfl, ?_⟩, hs⟩
      rw [hk]; simp [Go.gotoIn, hf]

end Cub

/- Soundness: a region's steps. -/
namespace Cub
open Go (Value World Addr TypeId FuncId Program Oper Operand Sem Result)
variable {S : Seat} {fns : Nat → Prop} {n : Nat} {σ : Sg} {st st' : St} {w : World} {fr : Fr} {Q Q1 : Rs → St → Prop} {s : Step} {l : List Step} {v : V}

theorem drop_cons {L : List Step} {m : Nat} (h : s :: l = L.drop m) : L[m]? = some s ∧ l = L.drop (m + 1) := by
  have h1 : (L.drop m)[0]? = some s := by rw [← h]; rfl
  rw [List.getElem?_drop] at h1
  refine ⟨by simpa using h1, ?_⟩
  have : (L.drop m).tail = l := by rw [← h]; rfl
  rw [← this, List.tail_drop]

theorem env_push {e0 : Env} {H : List Rec} (h : fr.env = cur (fun _ => true) 0 H e0) (dst : Option Nat) (v : V) (id : Option Nat) : (fr.put dst v).env = cur (fun _ => true) 0 (H ++ [⟨dst, v, id⟩]) e0 := by
  rw [cur_append]; simp [Fr.put, h]

theorem stepsS_nil (hτ : ∀ a b, S.τ a = S.τ b → a = b) (h : Q (.code .normal fr) st) : StepsS S fns [] fr st Q := by
  intro n ops L ord e0 σ0 st0 w0 rest H σ a w b k cs hO hl he I
  have hlen : H.length = L.length := by
    have := I.len
    have h2 : (L.drop H.length).length = 0 := by rw [← hl]; rfl
    simp at h2; omega
  obtain ⟨σ', w', a', h1, h2, h3⟩ := flush_all hτ hO hlen I
  exact ⟨fr, st, σ', a', w', h, by rw [he]; exact h2.done hO, h2.rel, h2.goes, h1, h3 b k cs⟩

theorem stepsS_unwanted (hw : ¬ s.wanted fr.env) (h : StepsS S fns l (fr.put s.dst .undef) st Q) : StepsS S fns (s :: l) fr st Q := by
  intro n ops L ord e0 σ0 st0 w0 rest H σ a w b k cs hO hl he I
  obtain ⟨hs, hl2⟩ := drop_cons hl
  have I2 := I.push hO hs (r := ⟨s.dst, .undef, none⟩) rfl (fun _ _ h => h) I.rel I.goes (Nat.le_refl _) (by simp) (.unwanted (by rw [envAt_last, ← he]; exact hw) rfl)
  obtain ⟨fr', st', σ', a', w', g1, g2, g3, g4, g5, g6⟩ := h n ops L ord e0 σ0 st0 w0 rest (H ++ [⟨s.dst, .undef, none⟩]) σ a w b k cs hO (by simpa using hl2) (env_push he _ _ _) I2
  exact ⟨fr', st', σ', a', w', g1, g2, g3, g4, g5, g6⟩

/-- What an effect has, when it is its turn. -/
theorem turn {ops : Array Oper} {L : List Step} {ord : List Nat} {e0 : Env} {σ0 : Sg} {st0 : St} {w0 : World} {post : List Nat} {H : List Rec} {a : Go.Act} {i : Nat} (hO : RegOk S fns n ops L ord)
    (I : RInv S fns n ops L ord e0 σ0 st0 w0 (i :: post) H σ st a w) (hs : L[H.length]? = some s) (hi : ord[H.length]? = some i) (he : fr.env = cur (fun _ => true) 0 H e0) (hw : s.wanted fr.env) :
    ∃ o, ops[i]? = some o ∧ StepM S fns n ops o s ∧ Go.Region.wanted o (Go.yielded ops a.tmps) = true ∧ VRs S σ (s.op.opnds.map (·.ev fr.env)) (o.op.operands.toList.map a.eval) := by
  obtain ⟨o, ho, hM⟩ := hO.step H.length i s hi hs
  have hreads : ∀ d, d ∈ s.reads → d < n → VR S σ (fr.env d) (a.tmps.getD d Go.undef) := by
    intro d hd hn
    have := I.tmps d hn
    rw [reads_now hO I.len I.dst I.left hi hs e0 hd] at this
    have h2 := congrFun (envAt_last H e0) d
    unfold envAt at h2
    rw [h2] at this
    rw [he]; exact this
  exact ⟨o, ho, hM, (wanted_iff (a := a) hM I.size hreads).2 hw, evs_rel I.rel hM.2.2.2.1 fun d hd hn => hreads d (step_opnds hM hd) hn⟩

theorem stepsS_one (hτ : ∀ a b, S.τ a = S.τ b → a = b) (hw : s.wanted fr.env) (h1 : step1 s.op fr.env st = some (v, st')) (hst : ∀ r ∈ s.stable, Same r fr.env st st') (h : StepsS S fns l (fr.put s.dst v) st' Q) :
    StepsS S fns (s :: l) fr st Q := by
  intro n ops L ord e0 σ0 st0 w0 rest H σ a w b k cs hO hl he I
  obtain ⟨hs, hl2⟩ := drop_cons hl
  cases hk : s.op.kind with
  | eff =>
    obtain ⟨i, hi⟩ : ∃ i, ord[H.length]? = some i := ⟨_, List.getElem?_eq_getElem (by rw [hO.len]; exact (List.getElem?_eq_some_iff.1 hs).1)⟩
    obtain ⟨post, σ1, w1, a1, d1, I1, s1⟩ := flush_to hτ hO hs hk hi I
    obtain ⟨o, ho, hM, hwt, hvs⟩ := turn hO I1 hs hi he hw
    obtain ⟨u, w2, σ2, hrun, k1, k2, k3⟩ := does_all hτ (by simp [hk]) I1.rel hM.2.2.1 hvs h1
    have I2 := eff_fin hO I1 hs hk hi hM k1 k2 k3 (by rw [← he]; exact hst)
    obtain ⟨fr', st', σ', a', w', g1, g2, g3, g4, g5, g6⟩ := h n ops L ord e0 σ0 st0 w0 post _ σ2 _ w2 b k cs hO (by simpa using hl2) (env_push he _ _ _) I2
    refine ⟨fr', st', σ', a', w', g1, g2, g3, g4, ?_, (s1 b k cs).trans (.head (stepR_value ho hwt (opSh_defer hM.2.2.1) hrun) g6)⟩
    rw [g5, ← d1]; cases o.dst <;> rfl
  | alloc =>
    rw [step1_alloc hk] at h1
    cases ha : allocOf s.op fr.env with
    | none => rw [ha] at h1; cases h1
    | some om =>
      obtain ⟨ob, mk⟩ := om
      rw [ha] at h1
      simp only [Option.map_some, Option.some.injEq, Prod.mk.injEq] at h1
      obtain ⟨rfl, rfl⟩ := h1
      have fresh : σ st.next = none := by
        cases hn : σ st.next with
        | none => rfl
        | some l => exact absurd (I.rel.lt _ l hn).1 (by omega)
      have I2 := I.push hO hs (r := ⟨s.dst, mk st.next, some st.next⟩) (st' := st.new ob) rfl (fun i o hi => by
          have := I.rel.mem i (by simp [hi])
          simp only [St.new]; rw [if_neg (by omega)]; exact hi) (I.rel.new ob) (I.goes.trans (Goes.newOwn σ st w ob fresh)) (Nat.le_succ _) (fun i hi => by cases hi; exact ⟨Nat.le_refl _, Nat.lt_succ_self _⟩)
        (.alloc (by rw [envAt_last, ← he]; exact hw) hk ob mk st.next (by rw [envAt_last, ← he]; exact ha) rfl rfl (by simp [St.new]) fresh I.goes.next)
      obtain ⟨fr', st', σ', a', w', g1, g2, g3, g4, g5, g6⟩ := h n ops L ord e0 σ0 st0 w0 rest _ σ a w b k cs hO (by simpa using hl2) (env_push he _ _ _) I2
      exact ⟨fr', st', σ', a', w', g1, g2, g3, g4, g5, g6⟩
  | pure =>
    have := step1_keeps (.inl hk) h1
    subst this
    have I2 := I.push hO hs (r := ⟨s.dst, v, none⟩) rfl (fun _ _ h => h) I.rel I.goes (Nat.le_refl _) (by simp) (.read (by rw [envAt_last, ← he]; exact hw) (.inl hk) (by rw [envAt_last, ← he]; exact h1))
    obtain ⟨fr', st', σ', a', w', g1, g2, g3, g4, g5, g6⟩ := h n ops L ord e0 σ0 st0 w0 rest _ σ a w b k cs hO (by simpa using hl2) (env_push he _ _ _) I2
    exact ⟨fr', st', σ', a', w', g1, g2, g3, g4, g5, g6⟩
  | read =>
    have := step1_keeps (.inr hk) h1
    subst this
    have I2 := I.push hO hs (r := ⟨s.dst, v, none⟩) rfl (fun _ _ h => h) I.rel I.goes (Nat.le_refl _) (by simp) (.read (by rw [envAt_last, ← he]; exact hw) (.inr hk) (by rw [envAt_last, ← he]; exact h1))
    obtain ⟨fr', st', σ', a', w', g1, g2, g3, g4, g5, g6⟩ := h n ops L ord e0 σ0 st0 w0 rest _ σ a w b k cs hO (by simpa using hl2) (env_push he _ _ _) I2
    exact ⟨fr', st', σ', a', w', g1, g2, g3, g4, g5, g6⟩

end Cub

/- Soundness: calls. -/
namespace Cub
open Go (Value World Addr TypeId FuncId Program Oper Operand Sem Result)
variable {S : Seat} {fns : Nat → Prop} {n : Nat} {σ : Sg} {st st' : St} {w : World} {fr : Fr} {Q Q1 : Rs → St → Prop} {s : Step} {l : List Step} {v : V}

theorem stepR_lands {P : Program} {b : Go.Frame} {a : Go.Act} {k : List Go.Item} {cs : List Go.Frame} {ops : Array Oper} {rest : List Nat} {i : Nat} {o : Oper} {nx : Go.Next} {f : Go.Frame} (ho : ops[i]? = some o) (hw : Go.Region.wanted o (Go.yielded ops a.tmps) = true)
    (hnd : ∀ c, o.op ≠ .defer c) (h : (Go.execOp a.eval o).run P w = .ok nx w) (hl : Lands P nx f) :
    Go.step P (Go.lone (b.atR a (.inRegion ops (i :: rest) :: k)) cs w) = .next (Go.lone f (b.atR a (.inRegion ops (i :: rest) :: k) :: cs) w) := by
  have hg := Go.stepGR_op (P := P) (b := b) (k := k) (cs := cs) (w := w) (rest := rest) ho hw
  refine Go.step_lone_go ?_
  rw [hg, Go.Oper.semAt_eq _ _ _ hnd]
  cases nx <;> simp only [Lands] at hl
  · subst hl; simp [Go.stepG.apply, h, Go.Frame.atR]
  · subst hl; simp [Go.stepG.apply, h, Go.Frame.atR]

theorem callvS_of {f : Nat} {first captured args : List V} (h : CallS S fns f (first ++ args ++ captured) st Q) : CallvS S fns (.func f first captured) args st Q := by
  intro f' args' σ w c cs hf ha hR
  obtain ⟨⟨fn, h1, h2, h3⟩, h⟩ := h
  simp only [VR] at hf
  obtain ⟨fs, cps, rfl, hfs, hcs⟩ := hf
  obtain ⟨v, st', σ', u, w', fr, g1, g2, g3, g4, g5, g6, g7⟩ := h (fs ++ args' ++ cps) σ w (c :: cs) (by simpa using (hfs.append ha).append hcs) hR
  refine ⟨{ target := .fn (.func (S.φ f)) cps, args := fs ++ args' }, .enter (S.φ f) (fs ++ args' ++ cps), _, v, st', σ', u, w', ?_, ?_, rfl, g1, g2, g3, g4, g5.trans (.one ?_)⟩
  · simp [Go.Deferred.ofValue]
  · have hb : fn.body.isNone = false := by cases hx : fn.body <;> simp_all
    have hbn : fn.body ≠ none := by cases hx : fn.body <;> simp_all
    simp [Go.invoke, Go.callFunc, Go.program, Sem.run, h1, h3, hbn]
  · exact Go.step_leave_returned g7

theorem stepsS_callv {f : X} {args : List X} (hτ : ∀ a b, S.τ a = S.τ b → a = b) (hw : s.wanted fr.env) (ho : s.op = .callv f args ∨ ∃ i, f = .f i ∧ s.op = .call i args) (h1 : CallvS S fns (f.ev fr.env) (evAll fr.env args) st Q1)
    (hv : ∀ r st', Q1 r st' → ∃ v, r = .vals v) (hst : ∀ v st', Q1 (.vals v) st' → ∀ o ∈ s.stable, Same o fr.env st st')
    (h : ∀ v st', Q1 (.vals v) st' → StepsS S fns l (fr.put s.dst v) st' Q) : StepsS S fns (s :: l) fr st Q := by
  intro n ops L ord e0 σ0 st0 w0 rest H σ a w b k cs hO hl he I
  obtain ⟨hs, hl2⟩ := drop_cons hl
  have hk : s.op.kind = .eff := by rcases ho with ho | ⟨i, _, ho⟩ <;> rw [ho] <;> rfl
  have hop : s.op.opnds = f :: args := by rcases ho with ho | ⟨i, e, ho⟩ <;> rw [ho] <;> simp [Op.opnds, *]
  obtain ⟨i, hi⟩ : ∃ i, ord[H.length]? = some i := ⟨_, List.getElem?_eq_getElem (by rw [hO.len]; exact (List.getElem?_eq_some_iff.1 hs).1)⟩
  obtain ⟨post, σ1, w1, a1, d1, I1, s1⟩ := flush_to hτ hO hs hk hi I
  obtain ⟨o, hoi, hM, hwt, hvs⟩ := turn hO I1 hs hi he hw
  obtain ⟨g, as, t, hoc⟩ : ∃ g as t, o.op = .call { callee := .value g, args := as, argTypes := t } := by
    have := hM.2.2.1
    rcases ho with ho | ⟨_, _, ho⟩ <;> rw [ho] at this
    · obtain ⟨g, as, t, e, _⟩ := this; exact ⟨g, as, t, e⟩
    · obtain ⟨g, as, t, e, _⟩ := this; exact ⟨g, as, t, e⟩
  rw [hop, hoc] at hvs
  have hvs' : VRs S σ1 (f.ev fr.env :: evAll fr.env args) (a1.eval g :: (as.map a1.eval).toList) := by
    have e1 : (f :: args).map (·.ev fr.env) = f.ev fr.env :: evAll fr.env args := rfl
    have e2 : (Go.Op.call { callee := .value g, args := as, argTypes := t }).operands.toList.map a1.eval = a1.eval g :: (as.map a1.eval).toList := by
      simp [Go.Op.operands, Go.Call.operands]
    rw [e1, e2] at hvs
    exact hvs
  simp only [VRs] at hvs'
  obtain ⟨_, _, e1, hf, ha⟩ := hvs'
  cases e1
  obtain ⟨d, nx, fr0, v, st2, σ2, u, w2, k1, k2, k3, k4, k5, k6, k7, k8⟩ := h1 (a1.eval g) (as.map a1.eval) σ1 w1 (b.atR a1 (.inRegion ops (i :: post) :: k)) cs hf ha I1.rel
  have hrun : (Go.execOp a1.eval o).run S.P w1 = .ok nx w1 := by
    simp only [Go.execOp, hoc, Go.resolve, Sem.run_bind, k1, Result.andThen_ok, k2]
  have I2 := eff_fin hO I1 hs hk hi hM k5 k6 k7 (by rw [← he]; exact hst v st2 k4)
  obtain ⟨fr', st', σ', a', w', g1, g2, g3, g4, g5, g6⟩ := h v st2 k4 n ops L ord e0 σ0 st0 w0 post _ σ2 _ w2 b k cs hO (by simpa using hl2) (env_push he _ _ _) I2
  have hfin : (b.atR a1 (.inRegion ops (i :: post) :: k)).finish u = b.atR (a1.put o.dst u) (.inRegion ops post :: k) := by
    rw [Go.Frame.finish_atR, hoi]; rfl
  rw [hfin] at k8
  refine ⟨fr', st', σ', a', w', g1, g2, g3, g4, ?_, (s1 b k cs).trans (.head (stepR_lands hoi hwt (opSh_defer hM.2.2.1) hrun k3) (k8.trans g6))⟩
  rw [g5, ← d1]; cases o.dst <;> rfl

end Cub

/- Soundness: a function's call, from its entry to its end. -/
namespace Cub
open Go (Value World Addr TypeId FuncId Program Oper Operand Sem Result)
variable {S : Seat} {XP : Nat → Option Fun} {fns : Nat → Prop} {lo n : Nat} {σ : Sg} {st st' : St} {w : World} {fr : Fr} {Q Q1 : Rs → St → Prop} {v : V}

theorem load_var (hR : Rel S fns σ st w) {t : TypeId} {m : Nat} {agg : Bool} (hp : PackM S t m agg) {b off : Nat} {l : Loc} {vs : List V} (hσ : σ b = some l) (hl : loadN st b off m = some vs) (hv : pack agg vs = some v) :
    ∃ u, (Go.loadVar t ⟨l.blk, l.off + off, none⟩).run S.P w = .ok u w ∧ VR S σ v u := by
  obtain ⟨d, hd, hag, ⟨i, hi, hin⟩, h1n⟩ := hp
  obtain ⟨us, hr, hvs, hfl, hlen, hcell⟩ := load_rel hR hσ hl
  cases agg with
  | true =>
    simp only [pack, if_true, Option.some.injEq] at hv
    subst hv
    refine ⟨.agg us.toArray, ?_, by simp only [VR]; exact ⟨_, rfl, hvs, hfl⟩⟩
    simp only [Go.loadVar, Sem.run_bind, run_isAgg hd, hag, Result.andThen_ok, if_true, run_size hi, hin, hr, Sem.run_pure]
  | false =>
    have := h1n rfl
    subst this
    simp only [pack, Bool.false_eq_true, if_false] at hv
    split at hv
    · rename_i x
      cases hv
      simp only [VRs] at hvs
      obtain ⟨u, us', rfl, hu, rfl⟩ := hvs
      refine ⟨u, ?_, hu⟩
      have hc := hcell 0 u rfl
      simp only [Nat.add_zero] at hc
      simp only [Go.loadVar, Sem.run_bind, run_isAgg hd, hag, Result.andThen_ok, Bool.false_eq_true, if_false]
      simp [Go.load, Sem.run, hc]
    · cases hv

theorem res_one (hR : Rel S fns σ st w) {tmps : Array Value} {e : Env} (he : EnvR S n σ e tmps) {r : Go.ResultVar} {x : ResVar} (hm : ResM S n r x) (hv : resOne e st x = some v) :
    ∃ u, ((match r with | .tmp t => pure (tmps.getD t Go.undef) | .cell a t => do Go.loadVar t (← Go.asAddr (tmps.getD a Go.undef))) : Sem Value).run S.P w = .ok u w ∧ VR S σ v u := by
  cases x with
  | t i =>
    cases r <;> simp only [ResM] at hm
    obtain ⟨rfl, hi⟩ := hm
    simp only [resOne, Option.some.injEq] at hv
    subst hv
    exact ⟨_, Sem.run_pure _ _ _, he.2 _ hi⟩
  | cell i m agg =>
    cases r <;> simp only [ResM] at hm
    obtain ⟨rfl, hi, hp⟩ := hm
    simp only [resOne] at hv
    split at hv
    · rename_i b off hb
      cases hl : loadN st b off m with
      | none => simp [hl] at hv
      | some vs =>
        simp only [hl, Option.bind_eq_bind, Option.bind_some] at hv
        have h1 := he.2 _ hi
        rw [hb] at h1; simp only [VR] at h1
        obtain ⟨a', e1, l, hσ, rfl⟩ := h1
        obtain ⟨u, hr, hu⟩ := load_var hR hp hσ hl hv
        refine ⟨u, ?_, hu⟩
        simp only [Sem.run_bind, e1, Go.asAddr, Sem.run_pure, Result.andThen_ok, hr]
    · cases hv

theorem res_all (hR : Rel S fns σ st w) {tmps : Array Value} {e : Env} (he : EnvR S n σ e tmps) : ∀ {rs : List Go.ResultVar} {xs : List ResVar} {vs : List V}, All2 (ResM S n) rs xs → resAll e st xs = some vs →
    ∃ us, (rs.mapM (fun r => (match r with | .tmp t => pure (tmps.getD t Go.undef) | .cell a t => do Go.loadVar t (← Go.asAddr (tmps.getD a Go.undef)) : Sem Value))).run S.P w = .ok us w ∧ VRs S σ vs us
  | [], [], vs, _, h => by
    simp only [resAll, Option.some.injEq] at h; subst h
    exact ⟨[], by simp, by simp [VRs]⟩
  | r :: rs, x :: xs, vs, hm, h => by
    simp only [resAll, Option.bind_eq_bind, Option.bind_eq_some_iff, Option.some.injEq] at h
    obtain ⟨v, h1, vs', h2, rfl⟩ := h
    obtain ⟨u, k1, k2⟩ := res_one hR he hm.1 h1
    obtain ⟨us, k3, k4⟩ := res_all hR he hm.2 h2
    exact ⟨u :: us, by simp only [List.mapM_cons, Sem.run_bind, k1, Result.andThen_ok, k3, Sem.run_pure], .cons k2 k4⟩
  | [], _ :: _, _, h, _ => h.elim
  | _ :: _, [], _, h, _ => h.elim

theorem results_rel (hR : Rel S fns σ st w) {tmps : Array Value} {e : Env} (he : EnvR S n σ e tmps) {fn : Go.Func} {xs : List ResVar} (hm : All2 (ResM S n) fn.results.toList xs) (h : resV xs e st = some v) :
    ∃ u, (Go.results fn tmps).run S.P w = .ok u w ∧ VR S σ v u := by
  simp only [resV, Option.bind_eq_bind, Option.bind_eq_some_iff] at h
  obtain ⟨vs, h1, h2⟩ := h
  obtain ⟨us, k1, k2⟩ := res_all hR he hm h1
  have hrun : ∀ (g : Array Value → Value), ((do let vs ← fn.results.mapM (fun r => (match r with | .tmp t => pure (tmps.getD t Go.undef) | .cell a t => do Go.loadVar t (← Go.asAddr (tmps.getD a Go.undef)) : Sem Value)); pure (g vs)) : Sem Value).run S.P w = .ok (g us.toArray) w := by
    intro g
    rw [Array.mapM_eq_mapM_toList]
    simp only [Sem.run_bind, Sem.run_map, k1]
    rfl
  have hr := hrun (fun vs => if h : vs.size = 1 then vs[0] else .tuple vs)
  refine ⟨_, hr, ?_⟩
  split at h2
  · rename_i x
    cases h2
    simp only [VRs] at k2
    obtain ⟨u, us', rfl, hu, rfl⟩ := k2
    simpa using hu
  · rename_i hne
    cases h2
    have hl := k2.length
    have : ¬ us.toArray.size = 1 := by
      intro h1
      simp at h1
      rw [h1] at hl
      match vs, hl with
      | [x], _ => exact hne x rfl
    rw [dif_neg this]
    simp only [VR]
    exact ⟨_, rfl, k2⟩

end Cub

/- Soundness: a function's call. -/
namespace Cub
open Go (Value World Addr TypeId FuncId Program Oper Operand Sem Result)
variable {S : Seat} {XP : Nat → Option Fun} {fns : Nat → Prop} {lo n : Nat} {σ : Sg} {st st' : St} {w : World} {fr : Fr} {Q Q1 : Rs → St → Prop} {v : V}

theorem run_take {P : Program} {r : Nat} (h : w.heap[r]? = some (.deferred (some []))) : (Go.Instr.takeDeferred r).run P w = .ok [] { w with heap := w.heap.setIfInBounds r (.deferred none) } := by
  simp only [Go.Instr.takeDeferred, Sem.run_bind, run_getObj h (by simp), Result.andThen_ok, run_setObj h (by simp), Sem.run_pure]

/-- A frame on its way out gives up its marks. -/
theorem unmark : ∀ (rs : List Nat) (w : World) (f : Go.Frame) (cs : List Go.Frame), f.mode = .returning → rs.Nodup → f.defers = rs.map (fun r => { target := .collected r, args := #[] }) →
    (∀ r ∈ rs, w.heap[r]? = some (.deferred (some []))) →
    ∃ heap : Array Go.Obj, heap.size = w.heap.size ∧ (∀ b, b ∉ rs → heap[b]? = w.heap[b]?) ∧ Go.Steps S.P (Go.lone f cs w) (Go.lone { f with defers := [] } cs { w with heap := heap })
  | [], w, f, cs, hm, _, hd, _ => ⟨w.heap, rfl, fun _ _ => rfl, by
      have : ({ f with defers := [] } : Go.Frame) = f := by cases f; simp_all
      rw [this]; exact .refl _ _⟩
  | r :: rs, w, f, cs, hm, hn, hd, hh => by
    obtain ⟨hr, hn⟩ := List.nodup_cons.1 hn
    have h0 := hh r (by simp)
    obtain ⟨s1, s2, s3⟩ := heap_set (y := Go.Obj.deferred none) h0
    have hstep := Go.step_collected (P := S.P) (fr := f) (cs := cs) (w := w) (r := r) (ds := rs.map (fun r => { target := .collected r, args := #[] })) (by rw [hm]; simp) (by simpa using hd) rfl (run_take h0)
    obtain ⟨heap, k1, k2, k3⟩ := unmark rs { w with heap := w.heap.setIfInBounds r (.deferred none) } { f with defers := [] ++ rs.map (fun r => { target := .collected r, args := #[] }) } cs hm hn (by simp) (fun q hq => by
      show (w.heap.setIfInBounds r (.deferred none))[q]? = _
      rw [s2 q (fun h => hr (h ▸ hq))]; exact hh q (List.mem_cons_of_mem _ hq))
    refine ⟨heap, by rw [k1]; exact s1, fun b hb => ?_, .head hstep k3⟩
    simp only [List.mem_cons, not_or] at hb
    rw [k2 b hb.2]; exact s2 b hb.1

theorem callS_call (hok : SeatOk S XP fns) {f : Nat} {args : List V} {fn : Fun} (hf : XP f = some fn) (h1 : CodeS S fns fn.body ⟨enterEnv args, []⟩ st Q1)
    (h : ∀ r st', Q1 r st' → ∃ o fr v, r = .code o fr ∧ (o = .normal ∨ o = .ret) ∧ fr.dfr = [] ∧ resV fn.results fr.env st' = some v ∧ Q (.vals v) st') : CallS S fns f args st Q := by
  obtain ⟨gf, hg, ⟨c, hc, hcm⟩, hres, hname⟩ := hok.fun_ f fn hf
  refine ⟨⟨gf, hg, by rw [hc]; rfl, hname⟩, fun args' σ w cs ha hR => ?_⟩
  let b : Go.Frame := { (default : Go.Frame) with fn := S.φ f, kind := .normal }
  let tmps : Array Value := args' ++ Array.replicate (gf.ntmps - args'.size) Go.undef
  have hent : Go.Frame.enter S.P (S.φ f) args' .normal = b.atR ⟨tmps, []⟩ [.code c] := by
    simp [Go.Frame.enter, Go.Frame.atR, hg, hc, b, tmps]; rfl
  have henv : EnvR S gf.ntmps σ (enterEnv args) tmps := by
    refine ⟨by simp [tmps]; omega, fun t ht => ?_⟩
    have hl := ha.length
    simp at hl
    unfold enterEnv
    rw [Array.getD_eq_getD_getElem?]
    show VR S σ _ ((args' ++ Array.replicate (gf.ntmps - args'.size) Go.undef)[t]?.getD Go.undef)
    rw [Array.getElem?_append]
    by_cases hlt : t < args'.size
    · rw [if_pos hlt]
      have hx : args[t]? = some (args[t]'(by omega)) := List.getElem?_eq_getElem (by omega)
      obtain ⟨u, hu, hr⟩ := ha.get t _ hx
      rw [← Array.getElem?_toList, hu]
      rw [List.getD_eq_getElem?_getD, hx]; exact hr
    · rw [if_neg hlt, List.getD_eq_getElem?_getD, List.getElem?_eq_none (by omega)]
      rw [Array.getElem?_replicate]
      split <;> exact vr_undef σ
  obtain ⟨o, fr', st', σ', a', w', m, g1, g2, g3, g4, g5, g6, g7⟩ := h1 w.heap.size gf.ntmps c σ ⟨tmps, []⟩ w b [] cs hcm henv hR ⟨Nat.le_refl _, [], List.nodup_nil, rfl, by simp⟩ ⟨rfl, fun l h => by cases h⟩
  obtain ⟨o2, fr2, v, e1, e2, e3, e4, e5⟩ := h _ _ g1
  cases e1
  obtain ⟨h0, rs, hnd, hds, hrs⟩ := g5
  have hret : ∃ m', Go.Steps S.P (Go.lone (b.atR a' m) cs w') (Go.lone { b.atR a' m' with mode := .returning } cs w') := by
    rcases e2 with rfl | rfl
    · simp only [Ends] at g6; subst g6
      exact ⟨[], .one (Go.stepR_end rfl)⟩
    · obtain ⟨k1, rfl⟩ := g6
      exact ⟨_, .one (Go.stepR_ret rfl)⟩
  obtain ⟨m', hret⟩ := hret
  obtain ⟨heap, k1, k2, k3⟩ := unmark (S := S) rs w' { b.atR a' m' with mode := .returning } cs rfl hnd hds (fun r hr => (hrs r hr).2.1)
  have hkeep : ∀ b, (∃ i l, σ' i = some l ∧ l.blk = b) → heap[b]? = w'.heap[b]? := by
    intro b ⟨i, l, hl, hb⟩
    refine k2 b fun hm => ?_
    exact (hrs b hm).2.2 i l hl hb
  have hrel : Rel S fns σ' st' { w' with heap := heap } := by
    refine ⟨g3.glob, fun i ob l hi hl => ?_, g3.inj, fun i l hl => ?_, g3.mem, g3.zero⟩
    · show ObjR S fns σ' ob l heap[l.blk]?
      rw [hkeep _ ⟨i, l, hl, rfl⟩]; exact g3.obj i ob l hi hl
    · have := g3.lt i l hl
      exact ⟨this.1, by show l.blk < heap.size; omega⟩
  have hgoes : Goes σ st w σ' st' { w' with heap := heap } := by
    refine ⟨g4.le, g4.new, g4.ro, g4.un, g4.next, ?_, fun b hb hn => ?_, fun b r hb => ?_, g4.os, g4.tape, g4.output⟩
    · show w.heap.size ≤ heap.size
      have := g4.size; omega
    · show heap[b]? = _
      rw [k2 b (fun hm => by have := (hrs b hm).1; omega)]
      exact g4.keep b hb hn
    · have hlt := (Array.getElem?_eq_some_iff.1 hb).1
      obtain ⟨r', h6, h7⟩ := g4.loop b r hb
      refine ⟨r', ?_, h7⟩
      show heap[b]? = _
      rw [k2 b (fun hm => by have := (hrs b hm).1; omega)]
      exact h6
  obtain ⟨u, hload, hvu⟩ := results_rel hrel g2 hres e4
  refine ⟨v, st', σ', u, { w' with heap := heap }, { b.atR a' m' with mode := .returning, defers := [] }, e5, hvu, hrel, hgoes, ?_, rfl, rfl, rfl, rfl, gf, hg, hload⟩
  rw [hent]
  exact (to_start _ _ _ _ _ _).trans (g7.trans (hret.trans k3))

end Cub

/- Soundness: ranges over functions. -/
namespace Cub
open Go (Value World Addr TypeId FuncId Program Oper Operand Sem Result)
variable {S : Seat} {XP : Nat → Option Fun} {fns : Nat → Prop} {lo n : Nat} {σ : Sg} {st st' : St} {w : World} {fr : Fr} {Q Q1 Q2 : Rs → St → Prop} {v : V}

theorem run_getLoop {P : Program} {l : Nat} {r : Go.Loop} (h : w.heap[l]? = some (Go.Obj.loop r)) : (Go.Instr.getLoop l).run P w = .ok r w := by
  simp only [Go.Instr.getLoop, Sem.run_bind, run_getObj h (by simp), Result.andThen_ok, Sem.run_pure]

theorem codeM_jump {c' : Go.Code} {c : Code} (h : JumpM (some c') (some c)) : CodeM S fns n c' c := by
  cases c' <;> cases c <;> simp only [JumpM] at h <;> simp only [CodeM] <;> exact h

/-- Something of the model's own is laid. -/
theorem Rel.push (h : Rel S fns σ st w) (x : Go.Obj) : Rel S fns σ st { w with heap := w.heap.push x } where
  glob := h.glob
  obj i o l hi hl := by
    have := (h.lt i l hl).2
    show ObjR S fns σ o l (w.heap.push x)[l.blk]?
    rw [Array.getElem?_push, if_neg (by omega)]; exact h.obj i o l hi hl
  inj := h.inj
  lt i l hl := by have := h.lt i l hl; exact ⟨this.1, by simp; omega⟩
  mem := h.mem
  zero := h.zero
theorem Goes.push {σ0 : Sg} {st0 : St} {w0 : World} (g : Goes σ0 st0 w0 σ st w) (x : Go.Obj) : Goes σ0 st0 w0 σ st { w with heap := w.heap.push x } where
  le := g.le
  new := g.new
  ro := g.ro
  un := g.un
  next := g.next
  size := by have := g.size; simp; omega
  keep b hb hn := by
    have := g.size
    show (w.heap.push x)[b]? = _
    rw [Array.getElem?_push, if_neg (by omega)]; exact g.keep b hb hn
  loop b r hb := by
    obtain ⟨r', h1, h2⟩ := g.loop b r hb
    have := (Array.getElem?_eq_some_iff.1 h1).1
    refine ⟨r', ?_, h2⟩
    show (w.heap.push x)[b]? = _
    rw [Array.getElem?_push, if_neg (by omega)]; exact h1
  os := g.os
  tape := g.tape
  output := g.output

/-- A loop's record changes in both. -/
theorem loop_set (hR : Rel S fns σ st w) {i : Nat} {l : Loc} (hσ : σ i = some l) {s s2 : LoopSt} {j j2 : Option Code} {e : Env} {ps : List Nat} {as bd : Code} (hm : st.mem i = some (.loop s j e ps as bd)) :
    ∃ r : Go.Loop, w.heap[l.blk]? = some (Go.Obj.loop r) ∧ r.state = s.up ∧ JumpM r.pending j ∧ (∃ m, EnvR S m σ e r.tmps ∧ r.params.toList = ps ∧ (∀ p ∈ ps, p < m) ∧ CodeM S fns m r.assign as ∧ CodeM S fns m r.body bd) ∧
      ∀ (pe : Option Go.Code), JumpM pe j2 →
        Rel S fns σ (st.set i (some (.loop s2 j2 e ps as bd))) { w with heap := w.heap.setIfInBounds l.blk (.loop { r with state := s2.up, pending := pe }) } ∧
        Goes σ st w σ (st.set i (some (.loop s2 j2 e ps as bd))) { w with heap := w.heap.setIfInBounds l.blk (.loop { r with state := s2.up, pending := pe }) } := by
  obtain ⟨r, m, h1, h2, h3, h4, h5, h6, h7, h8⟩ := hR.obj i _ l hm hσ
  refine ⟨r, h1, h2, h3, ⟨m, h4, h5, h6, h7, h8⟩, fun pe hpe => ?_⟩
  obtain ⟨a1, a2, a3⟩ := heap_set (y := Go.Obj.loop { r with state := s2.up, pending := pe }) h1
  exact ⟨hR.set hσ (by simp [hm]) a1 a2 ⟨_, m, a3, rfl, hpe, h4, h5, h6, h7, h8⟩ (fun _ => hR.zero i _ l hm hσ (by simp [NotCells])),
    .set hσ (by simp [hm, Wr]) _ a1 a2 (fun q hq => by rw [h1] at hq; cases hq; exact ⟨_, a3, rfl⟩)⟩

theorem setParams_rel {e : Env} : ∀ {ps : List Nat} {args : List V} {us : List Value} {e : Env} {tmps : Array Value}, (∀ p ∈ ps, p < n) → args.length = ps.length → VRs S σ args us → EnvR S n σ e tmps →
    EnvR S n σ (setParams e ps args) ((ps.zip us).foldl (fun t x => t.setIfInBounds x.1 x.2) tmps)
  | [], [], us, e, tmps, _, _, h, he => by simp only [VRs] at h; subst h; simpa [setParams] using he
  | p :: ps, v :: args, us, e, tmps, hp, hl, h, he => by
    simp only [VRs] at h
    obtain ⟨u, us', rfl, hu, hus⟩ := h
    simp only [setParams, List.zip_cons_cons, List.foldl_cons]
    refine setParams_rel (e := e) (fun q hq => hp q (List.mem_cons_of_mem _ hq)) (by simpa using hl) hus ?_
    refine ⟨by simp; exact he.1, fun t ht => ?_⟩
    have hpn := hp p (by simp)
    have h1 := he.1
    unfold upd
    rw [Array.getD_eq_getD_getElem?, Array.getElem?_setIfInBounds]
    by_cases htp : t = p
    · subst htp; rw [if_pos rfl, if_pos rfl, if_pos (by omega)]; exact hu
    · rw [if_neg htp, if_neg (Ne.symm htp), ← Array.getD_eq_getD_getElem?]; exact he.2 t ht
  | [], _ :: _, _, _, _, _, hl, _, _ => by simp at hl
  | _ :: _, [], _, _, _, _, hl, _, _ => by simp at hl

theorem callvS_round {l : Nat} {args : List V} {j : Option Code} {e : Env} {ps : List Nat} {assign body : Code} (hl : st.mem l = some (.loop .ready j e ps assign body)) (hp : args.length = ps.length)
    (h1 : CodeS S fns assign ⟨setParams e ps args, []⟩ st Q1)
    (hv1 : ∀ r st1, Q1 r st1 → ∃ fr j1 e1 ps1 a1 b1, r = .code .normal fr ∧ fr.dfr = [] ∧ st1.mem l = some (.loop .ready j1 e1 ps1 a1 b1))
    (h2 : ∀ fr st1 j1 e1 ps1 a1 b1, Q1 (.code .normal fr) st1 → st1.mem l = some (.loop .ready j1 e1 ps1 a1 b1) → CodeS S fns body fr (st1.set l (some (.loop .busy j1 e1 ps1 a1 b1))) Q2)
    (h3 : ∀ r st2, Q2 r st2 → ∃ o fr j2 e2 ps2 a2 b2, r = .code o fr ∧ fr.dfr = [] ∧ st2.mem l = some (.loop .busy j2 e2 ps2 a2 b2) ∧
        Q (.vals (.bool (jumpOf o).isNone)) (st2.set l (some (.loop (if (jumpOf o).isNone then .ready else .done) (jumpOf o) e2 ps2 a2 b2)))) :
    CallvS S fns (.yield l) args st Q := by
  intro f' args' σ w c cs hf ha hR
  simp only [VR] at hf
  obtain ⟨lc, hσ, rfl⟩ := hf
  obtain ⟨r, k1, k2, k3, ⟨m, k4, k5, k6, k7, k8⟩, _⟩ := loop_set (s2 := .ready) (j2 := j) hR hσ hl
  have hal := ha.length
  simp only [Array.length_toList] at hal
  let tm : Array Value := (r.params.zip args').foldl (fun t (x : Nat × Value) => t.setIfInBounds x.1 x.2) r.tmps
  let b : Go.Frame := { (default : Go.Frame) with fn := r.fn, kind := .normal, roundOf := some lc.blk }
  have henv : EnvR S m σ (setParams e ps args) tm := by
    have := setParams_rel (e := e) k6 hp ha k4
    refine cast (congrArg (EnvR S m σ _) ?_) this
    show _ = (r.params.zip args').foldl _ _
    rw [← Array.foldl_toList, Array.toList_zip, k5]
  obtain ⟨o, fr1, st1, σ1, a1, w1, m1, g1, g2, g3, g4, g5, g6, g7⟩ := h1 w.heap.size m r.assign σ ⟨tm, []⟩ w b [.beginRound, .code r.body] (c :: cs) k7 henv hR ⟨Nat.le_refl _, [], List.nodup_nil, rfl, by simp⟩
    ⟨rfl, fun l' hl' => by cases hl'; exact ⟨r, k1⟩⟩
  obtain ⟨fr1', j1, e1', ps1', a1', b1', e1, _, hm1⟩ := hv1 _ _ g1
  cases e1
  simp only [Ends] at g6; subst g6
  have hσ1 := g4.le l lc hσ
  obtain ⟨r1, q1, q2, q3, _, q5⟩ := loop_set (s2 := .busy) (j2 := j1) g3 hσ1 hm1
  obtain ⟨hrel2, hgo2⟩ := q5 r1.pending q3
  have hbeg : (Go.Instr.beginRound lc.blk).run S.P w1 = .ok () { w1 with heap := w1.heap.setIfInBounds lc.blk (.loop { r1 with state := .busy }) } := by
    simp only [Go.Instr.beginRound, Sem.run_bind, run_getLoop q1, Result.andThen_ok, run_setObj q1 (by simp), q2, LoopSt.up, Sem.run_pure]
  obtain ⟨o2, fr2, st2, σ2, a2, w2, m2, p1, p2, p3, p4, p5, p6, p7⟩ := h2 fr1 st1 j1 e1' ps1' a1' b1' g1 hm1 w.heap.size m r.body σ1 a1 _ b [] (c :: cs) k8 g2 hrel2 (g5.goes hgo2)
    ⟨rfl, fun l' hl' => by
      cases hl'
      obtain ⟨_, _, a3⟩ := heap_set (y := Go.Obj.loop { r1 with state := .busy }) q1
      exact ⟨_, a3⟩⟩
  obtain ⟨o3, fr3, j3, e4', ps4', a4', b4', e3, _, hm2, hq⟩ := h3 _ _ p1
  cases e3
  have hσ2 := (hgo2.trans p4).le l lc hσ1
  obtain ⟨r2, t1, t2, t3, _, t5⟩ := loop_set (s2 := if (jumpOf o2).isNone then .ready else .done) (j2 := jumpOf o2) p3 hσ2 hm2
  have hend : ∀ (pe : Option Go.Code), pe.isNone = (jumpOf o2).isNone → (Go.Instr.endRound lc.blk pe).run S.P w2 = .ok (.bool (jumpOf o2).isNone)
      { w2 with heap := w2.heap.setIfInBounds lc.blk (.loop { r2 with state := LoopSt.up (if (jumpOf o2).isNone then .ready else .done), pending := pe }) } := by
    intro pe hpe
    simp only [Go.Instr.endRound, Sem.run_bind, run_getLoop t1, Result.andThen_ok, run_setObj t1 (by simp), Sem.run_pure, hpe]
    cases (jumpOf o2).isNone <;> rfl
  have hto : Go.Steps S.P (Go.lone (b.atR ⟨tm, []⟩ [.code r.assign, .beginRound, .code r.body]) (c :: cs) w) (Go.lone (b.atR a2 m2) (c :: cs) w2) :=
    (to_start _ _ _ _ _ _).trans (g7.trans (.head (Go.stepR_beginRound rfl hbeg) ((to_start _ _ _ _ _ _).trans p7)))
  have hframe : Go.Frame.round lc.blk r.fn tm r.assign r.body .normal = b.atR ⟨tm, []⟩ [.code r.assign, .beginRound, .code r.body] := by
    simp [Go.Frame.round, Go.Frame.atR, b]
  have hyield : (Go.Instr.yield lc.blk (#[] ++ args')).run S.P w = .ok (.round lc.blk r.fn tm r.assign r.body) w := by
    have hsz : (#[] ++ args').size = r.params.size := by
      have : r.params.toList.length = ps.length := by rw [k5]
      simp at this
      simp; omega
    simp only [Go.Instr.yield, Sem.run_bind, run_getLoop k1, Result.andThen_ok]
    rw [if_neg (by simpa using hsz)]
    simp [tm]
  have fin : ∀ (pe : Option Go.Code) , JumpM pe (jumpOf o2) → pe.isNone = (jumpOf o2).isNone →
      (∀ w', (Go.Instr.endRound lc.blk pe).run S.P w2 = .ok (.bool (jumpOf o2).isNone) w' → Go.step S.P (Go.lone (b.atR a2 m2) (c :: cs) w2) = .next (Go.lone (c.finish (.bool (jumpOf o2).isNone)) cs w')) →
      ∃ d nx fr v st' σ' u w', (Go.Deferred.ofValue (.func (.yield lc.blk) #[] #[]) args').run S.P w = Result.ok d w ∧ (Go.invoke d.target d.args).run S.P w = Result.ok nx w ∧ Lands S.P nx fr ∧
      Q (.vals v) st' ∧ VR S σ' v u ∧ Rel S fns σ' st' w' ∧ Goes σ st w σ' st' w' ∧ Go.Steps S.P (Go.lone fr (c :: cs) w) (Go.lone (c.finish u) cs w') := by
    intro pe hj hn hstep
    obtain ⟨u1, u2⟩ := t5 pe hj
    refine ⟨{ target := .fn (.yield lc.blk) #[], args := #[] ++ args' }, .round lc.blk r.fn tm r.assign r.body, _, _, _, σ2, .bool (jumpOf o2).isNone, _, ?_, ?_, rfl, hq, by simp only [VR], u1, ((g4.trans hgo2).trans p4).trans u2, ?_⟩
    · simp [Go.Deferred.ofValue]
    · exact hyield
    · rw [hframe]; exact hto.trans (.one (hstep _ (hend pe hn)))
  cases o2 with
  | normal =>
    simp only [Ends] at p6; subst p6
    exact fin none trivial rfl fun w' h => Go.stepR_round_end rfl rfl h
  | ret =>
    obtain ⟨k1', rfl⟩ := p6
    exact fin (some .ret) trivial rfl fun w' h => Go.stepR_round_ret rfl rfl h
  | exit id =>
    obtain ⟨k1', rfl, hk⟩ := p6
    exact fin (some (.exit id)) rfl rfl fun w' h => Go.stepR_round_exit rfl rfl hk h
  | goto t =>
    obtain ⟨k1', rfl, hk⟩ := p6
    exact fin (some (.goto t)) rfl rfl fun w' h => Go.stepR_round_goto rfl rfl hk h

end Cub

/- Soundness: the statement that ranges over a function. -/
namespace Cub
open Go (Value World Addr TypeId FuncId Program Oper Operand Sem Result)
variable {S : Seat} {XP : Nat → Option Fun} {fns : Nat → Prop} {lo n : Nat} {σ : Sg} {st st' : St} {w : World} {fr : Fr} {Q Q1 Q2 : Rs → St → Prop} {v : V}

theorem stepR_rangeF {P : Program} {b : Go.Frame} {a : Go.Act} {k : List Go.Item} {cs : List Go.Frame} {g : Operand} {ps : Array Go.Tmp} {assign body : Go.Code} {l : Nat} {mark : List Go.Deferred} {w₁ w₁' w₂ : World} {d : Go.Deferred} {nx : Go.Next} {f : Go.Frame}
    (he : (Go.Instr.enterLoop b.fn a.tmps ps assign body b.roundOf).run P w = .ok (l, mark) w₁)
    (hres : (Go.resolve a.eval (Go.rangeCall g l) 0).run P w₁ = .ok d w₁') (hinv : (Go.invoke d.target d.args).run P w₁' = .ok nx w₂) (hl : Lands P nx f) :
    Go.step P (Go.lone (b.atR a (.code (.rangeFunc g ps assign body) :: k)) cs w) =
      .next (Go.lone f (b.atR { a with defers := mark ++ a.defers } (.inRangeFunc l :: k) :: cs) w₂) := by
  refine Go.step_lone_go ?_
  have hev := Go.Frame.eval_atR b { a with defers := mark ++ a.defers } (.inRangeFunc l :: k)
  simp only [Go.Frame.atR] at hev
  have hres' : Sem.run P (Go.resolve ({ tmps := a.tmps, defers := mark ++ a.defers } : Go.Act).eval { callee := .value g, args := #[.const (.func (.yield l) #[] #[])], argTypes := #[] } 0) w₁ = .ok d w₁' := hres
  cases nx <;> simp only [Lands] at hl
  · subst hl
    simp [Go.stepG, Go.stepG.exec, Go.Frame.atR, Sem.runT_eq, he, Go.GStep.bare_after, Go.stepG.apply, hev, Sem.run_bind, hres', hinv, Result.andThen]
  · subst hl
    simp [Go.stepG, Go.stepG.exec, Go.Frame.atR, Sem.runT_eq, he, Go.GStep.bare_after, Go.stepG.apply, hev, Sem.run_bind, hres', hinv, Result.andThen]

/-- A loop's record is laid. -/
theorem enter_loop (hR : Rel S fns σ st w) {b : Go.Frame} (hb : FrOk b w) {tmps : Array Value} {ps : Array Go.Tmp} {as bd : Go.Code} {e : Env} {as' bd' : Code} (he : EnvR S n σ e tmps) (hps : ∀ p ∈ ps.toList, p < n) (ha : CodeM S fns n as as') (hbd : CodeM S fns n bd bd')
    {ds : List Go.Deferred} (hd : DefOk lo σ w ds) :
    ∃ l mark w1 σ1, (Go.Instr.enterLoop b.fn tmps ps as bd b.roundOf).run S.P w = .ok (l, mark) w1 ∧ σ1 st.next = some ⟨l, 0, 0, 0⟩ ∧ Rel S fns σ1 (st.new (.loop .ready none e ps.toList as' bd')) w1 ∧
      Goes σ st w σ1 (st.new (.loop .ready none e ps.toList as' bd')) w1 ∧ DefOk lo σ1 w1 (mark ++ ds) := by
  have fresh : σ st.next = none := by
    cases hn : σ st.next with
    | none => rfl
    | some l => exact absurd (hR.lt _ l hn).1 (by omega)
  have lay : ∀ (w0 : World) (D : Nat), Rel S fns σ st w0 → Goes σ st w σ st w0 → 
      Rel S fns (σ.put st.next ⟨w0.heap.size, 0, 0, 0⟩) (st.new (.loop .ready none e ps.toList as' bd')) { w0 with heap := w0.heap.push (.loop { state := .ready, pending := none, fn := b.fn, tmps, params := ps, assign := as, body := bd, defers := D }) } ∧
      Goes σ st w (σ.put st.next ⟨w0.heap.size, 0, 0, 0⟩) (st.new (.loop .ready none e ps.toList as' bd')) { w0 with heap := w0.heap.push (.loop { state := .ready, pending := none, fn := b.fn, tmps, params := ps, assign := as, body := bd, defers := D }) } := by
    intro w0 D hR0 hg0
    refine ⟨(hR0.new (.loop .ready none e ps.toList as' bd')).put (o := .loop .ready none e ps.toList as' bd') (by simp [St.new]) fresh _ 0 0 0 ?_ (fun _ => rfl), (hg0.trans (Goes.newOwn σ st w0 _ fresh)).put fresh (Nat.le_refl _) _ 0 0 0⟩
    exact ⟨_, n, rfl, rfl, trivial, he.le (Sg.put_le fresh), rfl, hps, ha, hbd⟩
  cases hro : b.roundOf with
  | some l0 =>
    obtain ⟨r, hr⟩ := hb.2 l0 hro
    obtain ⟨k1, k2⟩ := lay w r.defers hR (Goes.refl _ _ _)
    refine ⟨w.heap.size, [], _, _, ?_, Sg.put_same _ _ _, k1, k2, hd.goes k2⟩
    simp only [Go.Instr.enterLoop, Sem.run_bind, run_getLoop hr, Result.andThen_ok, Sem.run_pure, run_new]
  | none =>
    obtain ⟨k1, k2⟩ := lay { w with heap := w.heap.push (.deferred (some [])) } w.heap.size (hR.push _) ((Goes.refl _ _ _).push _)
    refine ⟨(w.heap.push (Go.Obj.deferred (some []))).size, [{ target := .collected w.heap.size, args := #[] }], _, _, ?_, Sg.put_same _ _ _, k1, k2, ?_⟩
    · simp only [Go.Instr.enterLoop, Sem.run_bind, Result.andThen_ok, Sem.run_pure, run_new]
    · obtain ⟨h0, rs, h1, h2, h3⟩ := hd.goes k2
      refine ⟨h0, w.heap.size :: rs, List.nodup_cons.2 ⟨fun hm => ?_, h1⟩, by rw [h2]; rfl, fun r hr => ?_⟩
      · obtain ⟨_, rs', g1, g2, g3⟩ := hd
        have : rs' = rs := by
          have := g2.symm.trans h2
          have hinj : ∀ (a b : List Nat), a.map (fun r => ({ target := .collected r, args := #[] } : Go.Deferred)) = b.map (fun r => { target := .collected r, args := #[] }) → a = b := by
            intro a
            induction a with
            | nil => intro b h; cases b with
              | nil => rfl
              | cons _ _ => simp at h
            | cons x a ih => intro b h; cases b with
              | nil => simp at h
              | cons y b =>
                simp only [List.map_cons, List.cons.injEq, Go.Deferred.mk.injEq, Go.Target.collected.injEq, and_true] at h
                rw [h.1, ih b h.2]
          exact hinj _ _ this
        subst this
        have := (Array.getElem?_eq_some_iff.1 (g3 _ hm).2.1).1
        omega
      · rcases List.mem_cons.1 hr with rfl | hr
        · refine ⟨hd.1, ?_, fun i l hl he => ?_⟩
          · show ((w.heap.push (Go.Obj.deferred (some []))).push _)[w.heap.size]? = _
            rw [Array.getElem?_push, if_neg (by simp), Array.getElem?_push, if_pos rfl]
          · unfold Sg.put at hl
            split at hl
            · cases hl; simp at he
            · have := (hR.lt i l hl).2; omega
        · exact h3 r hr

theorem codeS_rangeFunc {f : X} {ps : List Nat} {assign body : Code}
    (h1 : CallvS S fns (f.ev fr.env) [.yield st.next] (st.new (.loop .ready none fr.env ps assign body)) Q1)
    (hr : ∀ r st', Q1 r st' → ∃ v s j e ps' a b, r = .vals v ∧ st'.mem st.next = some (.loop s j e ps' a b) ∧ s ≠ .busy)
    (hn : ∀ v st' s e ps' a b, Q1 (.vals v) st' → st'.mem st.next = some (.loop s none e ps' a b) →
      Q (.code .normal fr) (st'.set st.next (some (.loop .exhausted none e ps' a b))))
    (hj : ∀ v st' s c e ps' a b, Q1 (.vals v) st' → st'.mem st.next = some (.loop s (some c) e ps' a b) →
      CodeS S fns c fr (st'.set st.next (some (.loop .exhausted (some c) e ps' a b))) Q) : CodeS S fns (.rangeFunc f ps assign body) fr st Q := by
  intro lo n c' σ a w b k cs hc he hR hd hb
  cases c' <;> simp only [CodeM] at hc
  rename_i g qs as bd
  obtain ⟨hf, rfl, hps, ha, hbd⟩ := hc
  obtain ⟨l, mark, w1, σ1, e1, e2, e3, e4, e5⟩ := enter_loop hR hb he hps ha hbd hd
  have hfv := ev_rel e3 hf fun d _ hn => (he.2 d hn).le e4.le
  obtain ⟨d, nx, f0, v, st2, σ2, u, w2, k1, k2, k3, k4, k5, k6, k7, k8⟩ := h1 (a.eval g) #[.func (.yield l) #[] #[]] σ1 w1 (b.atR { a with defers := mark ++ a.defers } (.inRangeFunc l :: k)) cs hfv (by
    simp only [VRs]; exact ⟨_, _, rfl, by simp only [VR]; exact ⟨_, e2, rfl⟩, rfl⟩) e3
  have hres : (Go.resolve a.eval (Go.rangeCall g l) 0).run S.P w1 = .ok d w1 := by
    simp only [Go.resolve, Go.rangeCall]
    simpa [Go.Act.eval] using k1
  have hstep := stepR_rangeF (P := S.P) (b := b) (a := a) (k := k) (cs := cs) e1 hres k2 k3
  rw [Go.finish_atR_inRangeFunc] at k8
  obtain ⟨v0, s, j, e, ps', a', b', hv0, hm, hs⟩ := hr _ _ k4
  have hσ2 := k7.le _ _ e2
  obtain ⟨r, q1, q2, q3, _, q5⟩ := loop_set (s2 := .exhausted) (j2 := j) k6 hσ2 hm
  obtain ⟨hrel, hgo⟩ := q5 r.pending q3
  have hbusy : (r.state == Go.LoopState.busy) = false := by rw [q2]; cases s <;> first | rfl | exact absurd rfl hs
  have hend : (Go.Instr.endLoop l).run S.P w2 = .ok r.pending { w2 with heap := w2.heap.setIfInBounds l (.loop { r with state := .exhausted }) } := by
    simp only [Go.Instr.endLoop, Sem.run_bind, run_getLoop q1, Result.andThen_ok, hbusy, Bool.false_eq_true, if_false, Sem.run_pure, run_setObj q1 (by simp)]
  have hto := (Go.Steps.one hstep).trans (k8.trans (.one (Go.stepR_endRangeFunc hend)))
  have hall : Goes σ st w σ2 _ _ := (e4.trans k7).trans hgo
  have henv : EnvR S n σ2 fr.env a.tmps := he.le hall.le
  have hdef := (e5.goes k7).goes hgo
  cases j with
  | none =>
    have hp : r.pending = none := by
      cases hpe : r.pending with
      | none => rfl
      | some c => rw [hpe] at q3; cases c <;> exact q3.elim
    have hk : (Option.map Go.Item.code r.pending).toList ++ k = k := by rw [hp]; rfl
    rw [hk] at hto
    exact ⟨.normal, fr, _, σ2, { a with defers := mark ++ a.defers }, _, k, hn v st2 s e ps' a' b' k4 hm, henv, hrel, hall, hdef, rfl, hto⟩
  | some c =>
    obtain ⟨c', hp⟩ : ∃ c', r.pending = some c' := by
      cases hpe : r.pending with
      | none => rw [hpe] at q3; exact q3.elim
      | some c' => exact ⟨c', rfl⟩
    have hk : (Option.map Go.Item.code r.pending).toList ++ k = .code c' :: k := by rw [hp]; rfl
    rw [hk] at hto
    rw [hp] at q3
    obtain ⟨o3, fr3, st3, σ3, a3, w3, m3, p1, p2, p3, p4, p5, p6, p7⟩ := hj v st2 s c e ps' a' b' k4 hm lo n c' σ2 { a with defers := mark ++ a.defers } _ b k cs (codeM_jump q3) henv hrel hdef (hb.goes hall)
    exact ⟨o3, fr3, st3, σ3, a3, w3, m3, p1, p2, p3, hall.trans p4, p5, p6, hto.trans ((to_start _ _ _ _ _ _).trans p7)⟩

end Cub

/- Soundness: the next entry of a map. -/
namespace Cub
open Go (Value World Addr TypeId FuncId Program Oper Operand Sem Result)
variable {S : Seat} {fns : Nat → Prop} {n : Nat} {σ : Sg} {st st' : St} {w : World} {fr : Fr} {Q Q1 : Rs → St → Prop} {s : Step} {l : List Step} {v : V}

theorem All2.filter {α β : Type} {R : α → β → Prop} {p : α → Bool} {q : β → Bool} (hpq : ∀ a b, R a b → p a = q b) : ∀ {l : List α} {m : List β}, All2 R l m → All2 R (l.filter p) (m.filter q)
  | [], [], _ => trivial
  | a :: l, b :: m, h => by
    simp only [List.filter_cons, hpq a b h.1]
    cases q b with
    | true => exact ⟨h.1, All2.filter hpq h.2⟩
    | false => exact All2.filter hpq h.2
  | [], _ :: _, h => h.elim
  | _ :: _, [], h => h.elim
theorem All2.map {α β γ δ : Type} {R : α → β → Prop} {R' : γ → δ → Prop} {f : α → γ} {g : β → δ} (h : ∀ a b, R a b → R' (f a) (g b)) : ∀ {l : List α} {m : List β}, All2 R l m → All2 R' (l.map f) (m.map g)
  | [], [], _ => trivial
  | a :: l, b :: m, r => ⟨h _ _ r.1, All2.map h r.2⟩
  | [], _ :: _, r => r.elim
  | _ :: _, [], r => r.elim

def CandM (S : Seat) (σ : Sg) : Option (V × V × Nat) → Option Go.MapEntry → Prop
  | none, none => True
  | some x, some e => EntM S σ x e
  | _, _ => False

def cands (es : Array Go.MapEntry) (since : Nat) (seen : Array Nat) : Array (Option Go.MapEntry) :=
  let left := es.filter fun e => !seen.contains e.born
  let old := left.filter (·.born < since)
  let new := left.filter (·.born ≥ since)
  (if old.isEmpty then #[none] else #[]) ++ (old ++ new).map some

theorem cands_rel {es : List (V × V × Nat)} {es' : Array Go.MapEntry} (h : All2 (EntM S σ) es es'.toList) {seen : List Nat} {seen' : Array Nat} (hs : seen'.toList = seen.reverse) (since : Nat) :
    All2 (CandM S σ) (nextOf es since seen) (cands es' since seen').toList := by
  have hc : ∀ b, seen'.contains b = seen.contains b := by
    intro b
    rw [Bool.eq_iff_iff]
    simp only [Array.contains_iff_mem, List.contains_iff_mem]
    rw [← Array.mem_toList_iff, hs, List.mem_reverse]
  have hl : All2 (EntM S σ) (es.filter fun (_, _, b) => !seen.contains b) (es'.toList.filter fun e => !seen'.contains e.born) :=
    h.filter fun a b hab => by rw [hc, hab.2.2]
  have ho := hl.filter (p := fun (_, _, b) => decide (b < since)) (q := fun e => decide (e.born < since)) fun a b hab => by rw [hab.2.2]
  have hn := hl.filter (p := fun (_, _, b) => decide (since ≤ b)) (q := fun e => decide (e.born ≥ since)) fun a b hab => by rw [hab.2.2]
  have hlen := ho.length
  unfold nextOf cands
  simp only [Array.toList_append, Array.toList_map, Array.toList_filter]
  refine All2.append ?_ (All2.map (f := some) (g := some) (R' := CandM S σ) (fun a b h => h) (ho.append hn))
  have he : (Array.filter (fun x => decide (x.born < since)) (Array.filter (fun e => !seen'.contains e.born) es')).isEmpty = ((es.filter fun (_, _, b) => !seen.contains b).filter fun (_, _, b) => decide (b < since)).isEmpty := by
    rw [Bool.eq_iff_iff, Array.isEmpty_iff_size_eq_zero, List.isEmpty_iff_length_eq_zero, ← hlen, ← Array.length_toList]
    simp only [Array.toList_filter]
  rw [he]
  split
  · exact ⟨trivial, trivial⟩
  · trivial

theorem stepsS_nextMapNil (hτ : ∀ a b, S.τ a = S.τ b → a = b) {x : X} {r since : Nat} {seen : List Nat} {stepped : Nat} (hw : s.wanted fr.env)
    (ho : s.op = .nextMap x) (hx : x.ev fr.env = .ptr (some (r, 0))) (hr : st.mem r = some (.mapIter none since seen stepped))
    (h : StepsS S fns l (fr.put s.dst (.tuple [.bool false])) st Q) : StepsS S fns (s :: l) fr st Q := by
  intro n ops L ord e0 σ0 st0 w0 rest H σ a w b k cs hO hl he I
  obtain ⟨hs, hl2⟩ := drop_cons hl
  have hk : s.op.kind = .eff := by rw [ho]; rfl
  obtain ⟨i, hi⟩ : ∃ i, ord[H.length]? = some i := ⟨_, List.getElem?_eq_getElem (by rw [hO.len]; exact (List.getElem?_eq_some_iff.1 hs).1)⟩
  obtain ⟨post, σ1, w1, a1, d1, I1, s1⟩ := flush_to hτ hO hs hk hi I
  obtain ⟨o, hoi, hM, hwt, hvs⟩ := turn hO I1 hs hi he hw
  have hsh := hM.2.2.1
  rw [ho] at hsh
  obtain ⟨a', ha⟩ := hsh
  rw [ho, ha] at hvs
  have hv1 : VR S σ1 (x.ev fr.env) (a1.eval a') := vrs1' hvs
  rw [hx] at hv1; simp only [VR] at hv1
  obtain ⟨p, e1, lc, hσ, rfl⟩ := hv1
  obtain ⟨m', seen', hh, hse, hm'⟩ := I1.rel.obj r _ lc hr hσ
  simp only at hm'; subst hm'
  have h0 : lc.off = 0 := I1.rel.zero r _ lc hr hσ (by simp [NotCells])
  have hrun : (Go.execOp a1.eval o).run S.P w1 = .ok (.value (.tuple #[.bool false])) w1 := by
    simp only [Go.execOp, ha, Go.Instr.next, e1, h0, Sem.run_bind, run_getObj hh (by simp), Result.andThen_ok, Sem.run_pure]
  have I2 := eff_fin hO I1 hs hk hi hM (v := .tuple [.bool false]) (u := .tuple #[.bool false]) (by simp only [VR]; exact ⟨_, rfl, .cons (by simp only [VR]) .nil⟩) I1.rel (Goes.refl _ _ _) (fun _ _ _ h => h)
  obtain ⟨fr', st', σ', a'', w', g1, g2, g3, g4, g5, g6⟩ := h n ops L ord e0 σ0 st0 w0 post _ σ1 _ w1 b k cs hO (by simpa using hl2) (env_push he _ _ _) I2
  refine ⟨fr', st', σ', a'', w', g1, g2, g3, g4, ?_, (s1 b k cs).trans (.head (stepR_value hoi hwt (opSh_defer hM.2.2.1) (.inl hrun)) g6)⟩
  rw [g5, ← d1]; cases o.dst <;> rfl


theorem run_pick {P : Program} (k : Nat) (hk : 0 < k) : ∃ (i d : Nat), i < k ∧ (Go.choose (.mapNext k)).run P w = .ok i { w with drawn := d } := by
  by_cases h1 : k ≤ 1
  · refine ⟨0, w.drawn, hk, ?_⟩
    simp [Go.choose, Sem.run, Go.Question.forced, h1]
  · refine ⟨w.tape w.drawn (.mapNext k) % k, w.drawn + 1, Nat.mod_lt _ hk, ?_⟩
    simp [Go.choose, Sem.run, Go.Question.forced, Go.Question.cut, h1]

theorem nextOf_ne (es : List (V × V × Nat)) (since : Nat) (seen : List Nat) : 0 < (nextOf es since seen).length := by
  unfold nextOf
  simp only [List.length_append, List.length_map]
  split
  · simp; omega
  · rename_i h
    simp only [List.isEmpty_iff] at h
    have := List.length_pos_iff.2 h
    omega

theorem stepsS_nextMap (hτ : ∀ a b, S.τ a = S.τ b → a = b) {x : X} {r m since : Nat} {seen : List Nat} {stepped : Nat} {es : List (V × V × Nat)} {clock : Nat} (hw : s.wanted fr.env)
    (ho : s.op = .nextMap x) (hx : x.ev fr.env = .ptr (some (r, 0))) (hr : st.mem r = some (.mapIter (some m) since seen stepped))
    (hm : st.mem m = some (.map es clock)) (hgone : (!seen.isEmpty && !es.isEmpty && es.all (fun (_, _, b) => stepped ≤ b)) = false) (hst : s.stable = [])
    (hend : none ∈ nextOf es since seen → StepsS S fns l (fr.put s.dst (.tuple [.bool false])) st Q)
    (hone : ∀ k v b, some (k, v, b) ∈ nextOf es since seen →
        StepsS S fns l (fr.put s.dst (.tuple [.bool true, k, v])) (st.set r (some (.mapIter (some m) since (b :: seen) clock))) Q) : StepsS S fns (s :: l) fr st Q := by
  intro n ops L ord e0 σ0 st0 w0 rest H σ a w b k cs hO hl he I
  obtain ⟨hs, hl2⟩ := drop_cons hl
  have hk : s.op.kind = .eff := by rw [ho]; rfl
  obtain ⟨i, hi⟩ : ∃ i, ord[H.length]? = some i := ⟨_, List.getElem?_eq_getElem (by rw [hO.len]; exact (List.getElem?_eq_some_iff.1 hs).1)⟩
  obtain ⟨post, σ1, w1, a1, d1, I1, s1⟩ := flush_to hτ hO hs hk hi I
  obtain ⟨o, hoi, hM, hwt, hvs⟩ := turn hO I1 hs hi he hw
  have hsh := hM.2.2.1
  rw [ho] at hsh
  obtain ⟨a', ha⟩ := hsh
  rw [ho, ha] at hvs
  have hv1 : VR S σ1 (x.ev fr.env) (a1.eval a') := vrs1' hvs
  rw [hx] at hv1; simp only [VR] at hv1
  obtain ⟨p, e1, lc, hσ, rfl⟩ := hv1
  obtain ⟨m', seen', hh, hse, hm'⟩ := I1.rel.obj r _ lc hr hσ
  obtain ⟨ml, hml, rfl⟩ := hm'
  have h0 : lc.off = 0 := I1.rel.zero r _ lc hr hσ (by simp [NotCells])
  obtain ⟨es', hmh, hes⟩ := map_rel I1.rel hml hm
  have hc := cands_rel hes hse since
  have hsz : (cands es' since seen').size = (nextOf es since seen).length := by rw [← hc.length]; simp
  obtain ⟨idx, d, hidx, hch⟩ := run_pick (P := S.P) (w := w1) (cands es' since seen').size (by rw [hsz]; exact nextOf_ne _ _ _)
  have hgone' : (!seen'.isEmpty && !es'.isEmpty && es'.all (·.born ≥ stepped)) = false := by
    rw [← hgone]
    have h1 : seen'.isEmpty = seen.isEmpty := by
      rw [Bool.eq_iff_iff, Array.isEmpty_iff_size_eq_zero, List.isEmpty_iff_length_eq_zero, ← Array.length_toList, hse]; simp
    have h2 : es'.isEmpty = es.isEmpty := by
      rw [Bool.eq_iff_iff, Array.isEmpty_iff_size_eq_zero, List.isEmpty_iff_length_eq_zero, ← Array.length_toList, hes.length]
    have h3 : ∀ (es : List (V × V × Nat)) (es' : List Go.MapEntry), All2 (EntM S σ1) es es' → es'.all (·.born ≥ stepped) = es.all (fun (_, _, b) => decide (stepped ≤ b)) := by
      intro es
      induction es with
      | nil => intro es' h; cases es' with
        | nil => rfl
        | cons _ _ => exact h.elim
      | cons y es ih => intro es' h; cases es' with
        | nil => exact h.elim
        | cons z es' => simp only [List.all_cons, ih es' h.2, h.1.2.2]
    rw [h1, h2, ← Array.all_toList, h3 es es'.toList hes]
  have hcand : (let left := es'.filter fun e => !seen'.contains e.born
      let old := left.filter (·.born < since)
      let new := left.filter (·.born ≥ since)
      (if old.isEmpty then #[none] else #[]) ++ (old ++ new).map some) = cands es' since seen' := rfl
  obtain ⟨y, hy⟩ : ∃ y, (nextOf es since seen)[idx]? = some y := ⟨_, List.getElem?_eq_getElem (by omega)⟩
  obtain ⟨z, hz, hyz⟩ := hc.get idx y hy
  have hz' : (cands es' since seen')[idx]? = some z := by rw [← Array.getElem?_toList]; exact hz
  have hmem := List.mem_of_getElem? hy
  have fin : ∀ {v : V} {u : Value} {st2 : St} {w2 : World}, VR S σ1 v u → Rel S fns σ1 st2 w2 → Goes σ1 st w1 σ1 st2 w2 → (Go.execOp a1.eval o).run S.P w1 = .ok (.value u) w2 → StepsS S fns l (fr.put s.dst v) st2 Q →
      ∃ fr' st' σ' a' w', Q (.code .normal fr') st' ∧ EnvR S n σ' fr'.env a'.tmps ∧ Rel S fns σ' st' w' ∧ Goes σ0 st0 w0 σ' st' w' ∧ a'.defers = a.defers ∧
      Go.Steps S.P (Go.lone (b.atR a (.inRegion ops rest :: k)) cs w) (Go.lone (b.atR a' (.inRegion ops [] :: k)) cs w') := by
    intro v u st2 w2 hv hrel hgo hrun h
    have I2 := eff_fin hO I1 hs hk hi hM hv hrel hgo (by rw [hst]; simp)
    obtain ⟨fr', st', σ', a'', w', g1, g2, g3, g4, g5, g6⟩ := h n ops L ord e0 σ0 st0 w0 post _ σ1 _ w2 b k cs hO (by simpa using hl2) (env_push he _ _ _) I2
    refine ⟨fr', st', σ', a'', w', g1, g2, g3, g4, ?_, (s1 b k cs).trans (.head (stepR_value hoi hwt (opSh_defer hM.2.2.1) (.inl hrun)) g6)⟩
    rw [g5, ← d1]; cases o.dst <;> rfl
  have hpre : (Go.execOp a1.eval o).run S.P w1 = (do match (cands es' since seen')[idx]? with
      | some (some e) =>
        Go.setObj lc.blk (.mapIter (some ml.blk) since (seen'.push e.born) clock)
        pure (Go.Next.value (.tuple #[.bool true, e.key, e.val]))
      | some none => pure (Go.Next.value (.tuple #[.bool false]))
      | none => Go.stuck "Next: no such candidate" : Sem Go.Next).run S.P { w1 with drawn := d } := by
    simp only [Go.execOp, ha, Go.Instr.next, e1, h0, Sem.run_bind, run_getObj hh (by simp), Result.andThen_ok, run_getObj hmh (by simp), hgone', Bool.false_eq_true, if_false, hcand, hch]
    rw [hz']
    cases z with
    | none => simp
    | some z =>
      have := run_setObj (P := S.P) (w := { w1 with drawn := d }) (y := .mapIter (some ml.blk) since (seen'.push z.born) clock) hh (by simp)
      simp only [Sem.run_bind, this, Result.andThen_ok, Sem.run_pure]
  rw [hz'] at hpre
  cases y with
  | none =>
    cases z with
    | some _ => exact hyz.elim
    | none =>
      exact fin (v := .tuple [.bool false]) (u := .tuple #[.bool false]) (w2 := { w1 with drawn := d }) (by simp only [VR]; exact ⟨_, rfl, .cons (by simp only [VR]) .nil⟩) (I1.rel.drawn d) ((Goes.refl _ _ _).drawn d) (by rw [hpre]; simp) (hend hmem)
  | some y =>
    obtain ⟨ky, vy, by'⟩ := y
    cases z with
    | none => exact hyz.elim
    | some z =>
      obtain ⟨z1, z2, z3⟩ := hyz
      obtain ⟨q1, q2, q3⟩ := heap_set (y := Go.Obj.mapIter (some ml.blk) since (seen'.push z.born) clock) hh
      refine fin (v := .tuple [.bool true, ky, vy]) (u := .tuple #[.bool true, z.key, z.val]) (w2 := { w1 with heap := w1.heap.setIfInBounds lc.blk (.mapIter (some ml.blk) since (seen'.push z.born) clock), drawn := d }) (by simp only [VR]; exact ⟨_, rfl, .cons (by simp only [VR]) (.cons z1 (.cons z2 .nil))⟩) ?_ ?_ ?_ (hone ky vy by' hmem)
      · exact (I1.rel.drawn d).set hσ (by simp [hr]) q1 q2 ⟨_, _, q3, by simp [hse, z3], ml, hml, rfl⟩ (fun _ => h0)
      · exact ((Goes.refl σ1 st w1).drawn d).trans (.set (w := { w1 with drawn := d }) hσ (by simp [hr, Wr]) _ q1 q2 (fun q hq => by
          have hq' : w1.heap[lc.blk]? = some (Go.Obj.loop q) := hq
          rw [hh] at hq'; cases hq'))
      · rw [hpre]
        have := run_setObj (P := S.P) (w := { w1 with drawn := d }) (y := .mapIter (some ml.blk) since (seen'.push z.born) clock) hh (by simp)
        simp only [Sem.run_bind, this, Result.andThen_ok, Sem.run_pure]

end Cub

/- What own code's meaning says of the model's calls. -/
namespace Cub
open Go (Value World Addr TypeId FuncId Program Oper Operand Sem Result)
variable {S : Seat} {XP : Nat → Option Fun} {fns : Nat → Prop}

mutual
theorem VR.noAddr {σ σ' : Sg} : ∀ (v : V) (u : Value), noAddr v = true → VR S σ v u → VR S σ' v u
  | .bool b, u, _, r => by simpa only [VR] using r
  | .int k n, u, _, r => by simpa only [VR] using r
  | .str s, u, _, r => by simpa only [VR] using r
  | .ptr none, u, _, r => by simpa only [VR] using r
  | .ptr (some a), u, h, r => by simp [Cub.noAddr] at h
  | .slice none n c, u, _, r => by simpa only [VR] using r
  | .slice (some a) n c, u, h, r => by simp [Cub.noAddr] at h
  | .map none, u, _, r => by simpa only [VR] using r
  | .map (some b), u, h, r => by simp [Cub.noAddr] at h
  | .func f first captured, u, h, r => by
    simp only [Cub.noAddr, Bool.and_eq_true] at h
    simp only [VR] at r ⊢
    obtain ⟨a, b, e, x, y⟩ := r
    exact ⟨a, b, e, VRs.noAddr _ _ h.1 x, VRs.noAddr _ _ h.2 y⟩
  | .yield b, u, h, r => by simp [Cub.noAddr] at h
  | .nilFunc, u, _, r => by simpa only [VR] using r
  | .iface t x, u, h, r => by
    simp only [Cub.noAddr] at h
    simp only [VR] at r ⊢
    obtain ⟨y, e, z⟩ := r
    exact ⟨y, e, VR.noAddr _ _ h z⟩
  | .nilIface, u, _, r => by simpa only [VR] using r
  | .agg cs, u, h, r => by
    simp only [Cub.noAddr] at h
    simp only [VR] at r ⊢
    obtain ⟨y, e, z, f⟩ := r
    exact ⟨y, e, VRs.noAddr _ _ h z, f⟩
  | .tuple vs, u, h, r => by
    simp only [Cub.noAddr] at h
    simp only [VR] at r ⊢
    obtain ⟨y, e, z⟩ := r
    exact ⟨y, e, VRs.noAddr _ _ h z⟩
theorem VRs.noAddr {σ σ' : Sg} : ∀ (l : List V) (us : List Value), noAddrs l = true → VRs S σ l us → VRs S σ' l us
  | [], us, _, r => by simpa only [VRs] using r
  | v :: l, us, h, r => by
    simp only [noAddrs, Bool.and_eq_true] at h
    simp only [VRs] at r ⊢
    obtain ⟨u, us', e, x, y⟩ := r
    exact ⟨u, us', e, VR.noAddr _ _ h.1 x, VRs.noAddr _ _ h.2 y⟩
end

mutual
theorem VR.ren {σ : Sg} (ρ : Nat → Nat) : ∀ (v : V) (u : Value), VR S σ (Cub.ren ρ v) u → VR S (fun i => σ (ρ i)) v u
  | .bool b, u, r => by simpa only [VR, Cub.ren] using r
  | .int k n, u, r => by simpa only [VR, Cub.ren] using r
  | .str s, u, r => by simpa only [VR, Cub.ren] using r
  | .ptr none, u, r => by simpa only [VR, Cub.ren] using r
  | .ptr (some (a, o)), u, r => by
    simp only [VR, Cub.ren, AR] at r ⊢
    exact r
  | .slice none n c, u, r => by simpa only [VR, Cub.ren] using r
  | .slice (some (a, o)) n (.is c), u, r => by simp only [VR, Cub.ren, AR] at r ⊢; exact r
  | .slice (some (a, o)) n (.opn c), u, r => by simp only [VR, Cub.ren] at r ⊢; exact r
  | .map none, u, r => by simpa only [VR, Cub.ren] using r
  | .map (some b), u, r => by simp only [VR, Cub.ren] at r ⊢; exact r
  | .func f first captured, u, r => by
    simp only [VR, Cub.ren] at r ⊢
    obtain ⟨a, b, e, x, y⟩ := r
    exact ⟨a, b, e, VRs.ren ρ _ _ x, VRs.ren ρ _ _ y⟩
  | .yield b, u, r => by simp only [VR, Cub.ren] at r ⊢; exact r
  | .nilFunc, u, r => by simpa only [VR, Cub.ren] using r
  | .iface t x, u, r => by
    simp only [VR, Cub.ren] at r ⊢
    obtain ⟨y, e, z⟩ := r
    exact ⟨y, e, VR.ren ρ _ _ z⟩
  | .nilIface, u, r => by simpa only [VR, Cub.ren] using r
  | .agg cs, u, r => by
    simp only [VR, Cub.ren] at r ⊢
    obtain ⟨y, e, z, f⟩ := r
    exact ⟨y, e, VRs.ren ρ _ _ z, flat_ren ρ cs f⟩
  | .tuple vs, u, r => by
    simp only [VR, Cub.ren] at r ⊢
    obtain ⟨y, e, z⟩ := r
    exact ⟨y, e, VRs.ren ρ _ _ z⟩
theorem VRs.ren {σ : Sg} (ρ : Nat → Nat) : ∀ (l : List V) (us : List Value), VRs S σ (rens ρ l) us → VRs S (fun i => σ (ρ i)) l us
  | [], us, r => by simpa only [VRs, rens] using r
  | v :: l, us, r => by
    simp only [VRs, rens] at r ⊢
    obtain ⟨u, us', e, x, y⟩ := r
    exact ⟨u, us', e, VR.ren ρ _ _ x, VRs.ren ρ _ _ y⟩
theorem flat_ren (ρ : Nat → Nat) : ∀ (l : List V), (rens ρ l).all V.flat = true → l.all V.flat = true
  | [], _ => rfl
  | v :: l, h => by
    simp only [rens, List.all_cons, Bool.and_eq_true] at h ⊢
    refine ⟨?_, flat_ren ρ l h.2⟩
    have h1 := h.1
    cases v <;> first | rfl | (simp [Cub.ren, V.flat] at h1)
end

theorem callS_pure (hg : ∀ i g, S.γ i = some g → i < 64) {f : Nat} {args : List V} {st st0 : St} {Q Q0 : Rs → St → Prop} (ρ : Nat → Nat) (h0 : CallS S fns f args st0 Q0) (h64 : ∀ i, i < 64 → ρ i = i)
    (hρ : ∀ i, st0.next ≤ i → st.next ≤ ρ i) (hinj : ∀ i j, st0.mem i ≠ none → st0.mem j ≠ none → ρ i = ρ j → i = j)
    (hs : ∀ i o, st0.mem i = some o → i < st0.next ∧ isCells (st.mem (ρ i)) ∧ ∃ c, o = .ro c ∧ ∀ j v, c j = some v → v.flat = true ∧ loadN st (ρ i) j 1 = some [ren ρ v])
    (hq : ∀ r st', Q0 r st' → ∃ v, r = .vals v ∧ noAddr v = true ∧ Q (.vals v) st) : CallS S fns f (args.map (ren ρ)) st Q := by
  refine ⟨h0.1, fun args' σ w cs hargs hR => ?_⟩
  let σ0 : Sg := fun i => σ (ρ i)
  have hmem : ∀ i, st0.mem i ≠ none → st.mem (ρ i) ≠ none := by
    intro i hi
    cases ho : st0.mem i with
    | none => exact absurd ho hi
    | some o =>
      obtain ⟨_, hc, _⟩ := hs i o ho
      intro hn
      rw [hn] at hc; exact hc
  have hR0 : Rel S fns σ0 st0 w := by
    refine ⟨fun i g e => ?_, fun i o l e e' => ?_, fun i j l m e1 e2 e3 e4 e5 => ?_, fun i l e => ?_, fun i e => ?_, fun i o l e e' hz => ?_⟩
    · show σ (ρ i) = _
      rw [h64 i (hg i g e)]; exact hR.glob i g e
    · obtain ⟨hi, hci, c, rfl, hc⟩ := hs i o e
      obtain ⟨arr, ty, fz, g1⟩ : ∃ arr ty fz, w.heap[l.blk]? = some (.cells arr ty fz) := by
        cases hm : st.mem (ρ i) with
        | none => rw [hm] at hci; exact hci.elim
        | some o =>
          cases o <;> first | (rw [hm] at hci; exact hci.elim) | skip
          · obtain ⟨arr, ty, lo, hi, h1, _⟩ := hR.obj _ _ l hm e'
            exact ⟨arr, ty, _, h1⟩
          · obtain ⟨arr, ty, fz, h1, _⟩ := hR.obj _ _ l hm e'
            exact ⟨arr, ty, fz, h1⟩
      refine ⟨arr, ty, fz, g1, fun j v hj => ?_⟩
      obtain ⟨hf, hl⟩ := hc j v hj
      obtain ⟨us, _, h2, _, _, h3⟩ := load_rel hR e' hl
      simp only [VRs] at h2
      obtain ⟨u, us', rfl, h4, _⟩ := h2
      have h5 := h3 0 u rfl
      simp only [World.cell?, g1, Option.isSome_none, Bool.false_eq_true, if_false, Nat.add_zero] at h5
      exact ⟨hf, u, h5, VR.ren ρ _ _ h4⟩
    · exact hinj i j e1 e2 (hR.inj _ _ l m (hmem i e1) (hmem j e2) e3 e4 e5)
    · have h1 := hR.lt _ l e
      refine ⟨Nat.lt_of_not_le fun h => ?_, h1.2⟩
      have := hρ i h
      omega
    · cases ho1 : st0.mem i with
      | none => exact absurd ho1 e
      | some o1 => exact (hs i o1 ho1).1
    · obtain ⟨_, _, c, rfl, _⟩ := hs i o e
      exact absurd rfl (hz.2 c)
  have hargs0 : VRs S σ0 args args'.toList := by
    rw [← rens_map] at hargs
    exact VRs.ren ρ _ _ hargs
  obtain ⟨v, st', σ', u, w', fr, g1, g2, g3, g4, g5, g6, g7⟩ := h0.2 args' σ0 w cs hargs0 hR0
  obtain ⟨v', e1, e2, e3⟩ := hq _ _ g1
  cases e1
  have keep : ∀ b, b < w.heap.size → w'.heap[b]? = w.heap[b]? := by
    intro b hb
    refine g4.keep b hb fun i l hl hw => ?_
    exfalso
    cases ho : st0.mem i with
    | none => rw [ho] at hw; exact hw
    | some o =>
      obtain ⟨_, _, c, rfl, _⟩ := hs i o ho
      rw [ho] at hw; exact hw
  refine ⟨v, st, σ, u, w', fr, e3, VR.noAddr _ _ e2 g2, ?_, ?_, g5, g6, g7⟩
  · refine ⟨hR.glob, fun i o l e e' => ?_, hR.inj, fun i l e => ?_, hR.mem, hR.zero⟩
    · rw [keep _ (hR.lt i l e').2]; exact hR.obj i o l e e'
    · have := hR.lt i l e
      exact ⟨this.1, Nat.lt_of_lt_of_le this.2 g4.size⟩
  · refine ⟨Sg.le_refl _, fun i l e e' => by (rw [e] at e'; cases e'), fun _ _ _ _ => rfl, fun _ _ _ => rfl, Nat.le_refl _, g4.size, fun b hb _ => keep b hb, g4.loop, g4.os, g4.tape, g4.output⟩

def TaskS (S : Seat) (fns : Nat → Prop) (t : Task) (st : St) (Q : Rs → St → Prop) : Prop := match t with
  | .code c fr => CodeS S fns c fr st Q
  | .steps l fr => StepsS S fns l fr st Q
  | .call f args => CallS S fns f args st Q
  | .callv f args => CallvS S fns f args st Q
  | .inScope c d fr => ScopeS S fns c d fr st Q

theorem sound (hok : SeatOk S XP fns) {t : Task} {st : St} {Q : Rs → St → Prop} (h : Ex XP t st Q) : TaskS S fns t st Q := by
  induction h with
  | nil h => exact stepsS_nil hok.τ_inj h
  | unwanted hw _ ih => exact stepsS_unwanted hw ih
  | one hw h1 hs _ ih => exact stepsS_one hok.τ_inj hw h1 hs ih
  | stepCall hw ho _ hv hs _ ih1 ih2 => exact stepsS_callv hok.τ_inj hw (.inr ⟨_, rfl, ho⟩) (callvS_of (first := []) (captured := []) (by have h := ih1; simp only [TaskS] at h; simpa using h)) hv hs ih2
  | stepCallv hw ho _ hv hs _ ih1 ih2 => exact stepsS_callv hok.τ_inj hw (.inl ho) ih1 hv hs ih2
  | nextMapNil hw ho hx hr _ ih => exact stepsS_nextMapNil hok.τ_inj hw ho hx hr ih
  | nextMap hw ho hx hr hm hg hs _ _ ih1 ih2 => exact stepsS_nextMap hok.τ_inj hw ho hx hr hm hg hs ih1 ih2
  | skip h => exact codeS_skip h
  | label h => exact codeS_label h
  | exit h => exact codeS_exit h
  | goto h => exact codeS_goto h
  | ret h => exact codeS_ret h
  | region _ ih => exact codeS_region hok.mixed ih
  | seq _ _ ho ih1 ihn => exact codeS_seq ih1 ihn ho
  | cond hc _ ih => exact codeS_cond hc ih
  | block _ h ih => exact codeS_block ih h
  | loop _ _ ho ih1 ihn => exact codeS_loop ih1 ihn ho
  | scope _ ih => exact codeS_scope ih
  | inScope _ _ ho ih1 ihg => exact scopeS ih1 ihg ho
  | rangeFunc _ hr hn _ ih1 ihj => exact codeS_rangeFunc ih1 hr hn ihj
  | call hf _ h ih => exact callS_call hok hf ih h
  | pure ρ _ h64 _ hρ hinj hs hq ih => exact callS_pure hok.glob_lt ρ ih h64 hρ hinj hs hq
  | callf _ ih => exact callvS_of ih
  | round hl hp _ hv1 _ h3 ih1 ih2 => exact callvS_round hl hp ih1 hv1 ih2 h3

/-- The model's call comes to an end of which own code knows. -/
theorem calls_of (hok : SeatOk S XP fns) {f : Nat} {args : List V} {args' : Array Value} {σ : Sg} {st : St} {w : World} {Q : Rs → St → Prop} (h : Ex XP (.call f args) st Q) (ha : VRs S σ args args'.toList) (hR : Rel S fns σ st w) :
    Go.Calls S.P (S.φ f) args' w fun e w' => ∃ v st' σ' u, e = .returned u ∧ Q (.vals v) st' ∧ VR S σ' v u ∧ Rel S fns σ' st' w' ∧ Goes σ st w σ' st' w' := by
  intro cs
  obtain ⟨v, st', σ', u, w', fr, h1, h2, h3, h4, h5, h6, h7⟩ := (sound hok h).2 args' σ w cs ha hR
  exact ⟨.returned u, w', fr, ⟨v, st', σ', u, rfl, h1, h2, h3, h4⟩, h5, h6, h7⟩

end Cub

/- Deciding that own code is a translation's: types and constants. -/
namespace Cub
open Go (Value World Addr TypeId FuncId Program Oper Operand TypeDesc)
variable {S : Seat} {fns : Nat → Prop}

mutual
def vrB (S : Seat) (v : V) (u : Value) : Bool := match v, u with
  | .bool b, .bool c => b == c
  | .int k n, .int k' m => decide (k = k') && decide (n = m)
  | .str s, .string ⟨⟨t⟩⟩ => s == t
  | .ptr none, .pointer none => true
  | .slice none n c, .slice none i j => n == 0 && decide (c = .is 0) && i == 0 && j == 0
  | .map none, .map none => true
  | .func f [] [], .func (.func g) a b => g == S.φ f && a.size == 0 && b.size == 0
  | .nilFunc, .nilFunc => true
  | .iface t x, .iface t' y => t' == S.τ t && vrB S x y
  | .nilIface, .nilIface => true
  | .agg cs, .agg ⟨cs'⟩ => vrsB S cs cs' && cs.all V.flat
  | .tuple vs, .tuple ⟨vs'⟩ => vrsB S vs vs'
  | _, _ => false
def vrsB (S : Seat) (l : List V) (us : List Value) : Bool := match l, us with
  | [], [] => true
  | v :: r, u :: us' => vrB S v u && vrsB S r us'
  | _, _ => false
end

mutual
theorem vrB_ok (σ : Sg) : ∀ (v : V) (u : Value), vrB S v u = true → VR S σ v u
  | .bool b, u, h => by cases u <;> simp [vrB] at h; subst h; simp [VR]
  | .int k n, u, h => by cases u <;> simp [vrB] at h; obtain ⟨rfl, rfl⟩ := h; simp [VR]
  | .str s, u, h => by
    cases u <;> simp [vrB] at h
    rename_i t; obtain ⟨⟨t⟩⟩ := t
    simp at h; subst h; simp [VR]
  | .ptr none, u, h => by
    cases u with
    | pointer a => cases a with
      | none => simp [VR]
      | some _ => simp [vrB] at h
    | _ => simp [vrB] at h
  | .ptr (some a), u, h => by cases u <;> simp [vrB] at h
  | .slice none n c, u, h => by
    cases u with
    | slice a i j => cases a with
      | none => simp [vrB] at h; obtain ⟨⟨⟨rfl, rfl⟩, rfl⟩, rfl⟩ := h; simp [VR]
      | some _ => simp [vrB] at h
    | _ => simp [vrB] at h
  | .slice (some a) n c, u, h => by cases u <;> simp [vrB] at h
  | .map none, u, h => by
    cases u with
    | map a => cases a with
      | none => simp [VR]
      | some _ => simp [vrB] at h
    | _ => simp [vrB] at h
  | .map (some a), u, h => by cases u <;> simp [vrB] at h
  | .func f a b, u, h => by
    cases a with
    | cons _ _ => cases u <;> simp [vrB] at h
    | nil => cases b with
      | cons _ _ => cases u <;> simp [vrB] at h
      | nil =>
        cases u with
        | func g x y => cases g with
          | func g =>
            simp [vrB] at h
            obtain ⟨⟨rfl, rfl⟩, rfl⟩ := h
            simp [VR, VRs]
          | _ => simp [vrB] at h
        | _ => simp [vrB] at h
  | .yield l, u, h => by cases u <;> simp [vrB] at h
  | .nilFunc, u, h => by cases u <;> simp [vrB] at h; simp [VR]
  | .iface t x, u, h => by
    cases u <;> simp [vrB] at h
    obtain ⟨rfl, h⟩ := h
    simp only [VR]; exact ⟨_, rfl, vrB_ok σ _ _ h⟩
  | .nilIface, u, h => by cases u <;> simp [vrB] at h; simp [VR]
  | .agg cs, u, h => by
    cases u <;> simp only [vrB, Bool.false_eq_true] at h
    rename_i a; obtain ⟨a⟩ := a
    simp only [Bool.and_eq_true] at h
    simp only [VR]; exact ⟨_, rfl, vrsB_ok σ _ _ h.1, h.2⟩
  | .tuple cs, u, h => by
    cases u <;> simp only [vrB, Bool.false_eq_true] at h
    rename_i a; obtain ⟨a⟩ := a
    simp only [VR]; exact ⟨_, rfl, vrsB_ok σ _ _ h⟩
theorem vrsB_ok (σ : Sg) : ∀ (l : List V) (us : List Value), vrsB S l us = true → VRs S σ l us
  | [], us, h => by cases us <;> simp [vrsB] at h; simp [VRs]
  | v :: l, us, h => by
    cases us with
    | nil => simp [vrsB] at h
    | cons u us =>
      simp only [vrsB, Bool.and_eq_true] at h
      exact .cons (vrB_ok σ _ _ h.1) (vrsB_ok σ _ _ h.2)
end

def xmB (S : Seat) (n : Nat) (a : Operand) (x : X) : Bool := match a, x with
  | .tmp t, .t i => t == i && decide (i < n)
  | .const u, .c v => vrB S v u
  | .global g, .g i => decide (S.γ i = some g)
  | .func f, .f i => f == S.φ i
  | _, _ => false
theorem xmB_ok {n : Nat} {a : Operand} {x : X} (h : xmB S n a x = true) : XM S (· < n) a x := by
  cases x <;> cases a <;> simp [xmB] at h <;> simp only [XM] <;> first | exact h | exact vrB_ok _ _ _ h

def all2B {α β : Type} (R : α → β → Bool) : List α → List β → Bool
  | [], [] => true
  | a :: as, b :: bs => R a b && all2B R as bs
  | _, _ => false
theorem all2B_ok {α β : Type} {R : α → β → Bool} {P : α → β → Prop} (hR : ∀ a b, R a b = true → P a b) : ∀ {l : List α} {m : List β}, all2B R l m = true → All2 P l m
  | [], [], _ => trivial
  | a :: l, b :: m, h => by
    simp only [all2B, Bool.and_eq_true] at h
    exact ⟨hR _ _ h.1, all2B_ok hR h.2⟩
  | [], _ :: _, h => by simp [all2B] at h
  | _ :: _, [], h => by simp [all2B] at h

def zeroMB (S : Seat) (t : TypeId) (zs : List V) : Bool := match S.P.info? t with
  | some i => match i.zero with
    | some z => vrsB S zs z.cells.toList && zs.all V.flat
    | none => false
  | none => false
theorem zeroMB_ok {t : TypeId} {zs : List V} (h : zeroMB S t zs = true) : ZeroM S t zs := by
  unfold zeroMB at h
  split at h
  · rename_i i hi
    split at h
    · rename_i z hz
      simp only [Bool.and_eq_true] at h
      exact ⟨i, z, hi, hz, vrsB_ok _ _ _ h.1, h.2⟩
    · cases h
  · cases h
def zeroVB (S : Seat) (t : TypeId) (v : V) : Bool := match S.P.info? t with
  | some i => match i.zero with
    | some z => vrB S v z
    | none => false
  | none => false
theorem zeroVB_ok {t : TypeId} {v : V} (h : zeroVB S t v = true) : ZeroV S t v := by
  unfold zeroVB at h
  split at h
  · rename_i i hi
    split at h
    · rename_i z hz; exact ⟨i, z, hi, hz, vrB_ok _ _ _ h⟩
    · cases h
  · cases h
def sizeB (S : Seat) (t : TypeId) (n : Nat) : Bool := match S.P.info? t with
  | some i => i.size == n
  | none => false
theorem sizeB_ok {t : TypeId} {n : Nat} (h : sizeB S t n = true) : SizeM S t n := by
  unfold sizeB at h
  split at h
  · rename_i i hi; exact ⟨i, hi, by simpa using h⟩
  · cases h
def bytesB (S : Seat) (t : TypeId) (n : Nat) : Bool := match S.P.info? t with
  | some i => i.bytes == n
  | none => false
theorem bytesB_ok {t : TypeId} {n : Nat} (h : bytesB S t n = true) : BytesM S t n := by
  unfold bytesB at h
  split at h
  · rename_i i hi; exact ⟨i, hi, by simpa using h⟩
  · cases h
def packB (S : Seat) (t : TypeId) (n : Nat) (agg : Bool) : Bool := match S.P.underlying t with
  | some d => aggB d == agg && sizeB S t n && (agg || n == 1)
  | none => false
theorem packB_ok {t : TypeId} {n : Nat} {agg : Bool} (h : packB S t n agg = true) : PackM S t n agg := by
  unfold packB at h
  split at h
  · rename_i d hd
    simp only [Bool.and_eq_true, Bool.or_eq_true, beq_iff_eq] at h
    exact ⟨d, hd, h.1.1, sizeB_ok h.1.2, fun ha => by rcases h.2 with h | h; · rw [ha] at h; cases h
                                                      · exact h⟩
  · cases h
def undB (S : Seat) (t : TypeId) (p : TypeDesc → Bool) : Bool := match S.P.underlying t with
  | some d => p d
  | none => false
theorem undB_ok {t : TypeId} {p : TypeDesc → Bool} (h : undB S t p = true) : ∃ d, Und S t d ∧ p d = true := by
  unfold undB at h
  split at h
  · rename_i d hd; exact ⟨d, hd, h⟩
  · cases h

end Cub

/- Deciding that own code is a translation's: operations. -/
namespace Cub
open Go (Value World Addr TypeId FuncId Program Oper Operand TypeDesc)
variable {S : Seat} {fns : Nat → Prop}

mutual
def tyB (S : Seat) (lit : Bool) (t : TypeId) (y : Ty) : Bool := match y with
  | .bool => undB S t fun | .bool => true | _ => false
  | .int => undB S t fun | .int _ => true | _ => false
  | .str => undB S t fun | .string => true | _ => false
  | .ptr => undB S t fun | .pointer e => (match S.P.info? e with | some i => i.size != 0 | none => false) | _ => false
  | .slice => undB S t fun | .slice _ => true | _ => false
  | .map => undB S t fun | .map _ _ => true | _ => false
  | .func => undB S t fun | .func _ _ _ => true | _ => false
  | .iface m => undB S t fun | .interface ms => m == (!ms.isEmpty && !lit) | _ => false
  | .struct fs => undB S t fun | .struct fields => !S.P.stoodInHeld t && !S.P.eqGuardType S.P.depth t && fsB S fields.toList fs | _ => false
  | .none => false
def fsB (S : Seat) (fields : List Go.Field) (y : Fs) : Bool := match y with
  | .nil => fields.isEmpty
  | .cons off n agg t r => match fields with
    | f :: rest => f.name != "_" && f.offset == off && packB S f.type n agg && tyB S false f.type t && fsB S rest r
    | [] => false
end
mutual
theorem tyB_ok : ∀ (y : Ty) {lit : Bool} {t : TypeId}, tyB S lit t y = true → TyM S lit t y
  | .bool, lit, t, h => by
    simp only [tyB] at h; obtain ⟨d, h1, h2⟩ := undB_ok h
    cases d <;> simp at h2; simp only [TyM]; exact h1
  | .int, lit, t, h => by
    simp only [tyB] at h; obtain ⟨d, h1, h2⟩ := undB_ok h
    cases d <;> simp at h2; simp only [TyM]; exact ⟨_, h1⟩
  | .str, lit, t, h => by
    simp only [tyB] at h; obtain ⟨d, h1, h2⟩ := undB_ok h
    cases d <;> simp at h2; simp only [TyM]; exact h1
  | .ptr, lit, t, h => by
    simp only [tyB] at h; obtain ⟨d, h1, h2⟩ := undB_ok h
    cases d <;> simp only [Bool.false_eq_true] at h2
    simp only [TyM]
    split at h2
    · rename_i i hi; exact ⟨_, i.size, h1, ⟨i, hi, rfl⟩, by simpa using h2⟩
    · cases h2
  | .slice, lit, t, h => by
    simp only [tyB] at h; obtain ⟨d, h1, h2⟩ := undB_ok h
    cases d <;> simp at h2; simp only [TyM]; exact ⟨_, h1⟩
  | .map, lit, t, h => by
    simp only [tyB] at h; obtain ⟨d, h1, h2⟩ := undB_ok h
    cases d <;> simp at h2; simp only [TyM]; exact ⟨_, _, h1⟩
  | .func, lit, t, h => by
    simp only [tyB] at h; obtain ⟨d, h1, h2⟩ := undB_ok h
    cases d <;> simp at h2; simp only [TyM]; exact ⟨_, _, _, h1⟩
  | .iface m, lit, t, h => by
    simp only [tyB] at h; obtain ⟨d, h1, h2⟩ := undB_ok h
    cases d <;> simp only [Bool.false_eq_true, beq_iff_eq] at h2; simp only [TyM]; exact ⟨_, h1, h2⟩
  | .struct fs, lit, t, h => by
    simp only [tyB] at h; obtain ⟨d, h1, h2⟩ := undB_ok h
    cases d <;> simp only [Bool.false_eq_true, Bool.and_eq_true, Bool.not_eq_true'] at h2; simp only [TyM]
    exact ⟨_, h1, h2.1.1, h2.1.2, fsB_ok fs h2.2⟩
  | .none, lit, t, h => by simp [tyB] at h
theorem fsB_ok : ∀ (y : Fs) {fields : List Go.Field}, fsB S fields y = true → FsM S fields y
  | .nil, fields, h => by simp only [fsB, List.isEmpty_iff] at h; simp only [FsM]; exact h
  | .cons off n agg t r, fields, h => by
    cases fields with
    | nil => simp [fsB] at h
    | cons f rest =>
      simp only [fsB, Bool.and_eq_true, bne_iff_ne, beq_iff_eq] at h
      simp only [FsM]
      exact ⟨f, rest, rfl, h.1.1.1.1, h.1.1.1.2, packB_ok h.1.1.2, tyB_ok t h.1.2, fsB_ok r h.2⟩
end

/-- The parts of a literal, place by place. -/
def partsB {α : Type} (p : Nat → α → Bool) (qs : List (Nat × Operand)) (ps : List α) : Bool := match qs, ps with
  | [], [] => true
  | q :: qs, x :: ps => p q.1 x && partsB p qs ps
  | _, _ => false
theorem partsB_ok {α : Type} {p : Nat → α → Bool} : ∀ {qs : List (Nat × Operand)} {ps : List α}, partsB p qs ps = true → qs.length = ps.length ∧ ∀ (i j : Nat) a x, qs[i]? = some (j, a) → ps[i]? = some x → p j x = true
  | [], [], _ => ⟨rfl, fun i j a x h => by simp at h⟩
  | q :: qs, x :: ps, h => by
    simp only [partsB, Bool.and_eq_true] at h
    obtain ⟨h1, h2⟩ := partsB_ok h.2
    refine ⟨by simp [h1], fun i j a y hq hp => ?_⟩
    cases i with
    | zero => simp at hq hp; subst hp; rw [hq] at h; exact h.1
    | succ i => exact h2 i j a y (by simpa using hq) (by simpa using hp)
  | [], _ :: _, h => by simp [partsB] at h
  | _ :: _, [], h => by simp [partsB] at h

end Cub

/- Deciding that own code is a translation's: one operation. -/
namespace Cub
open Go (Value World Addr TypeId FuncId Program Oper Operand TypeDesc)
variable {S : Seat}

abbrev anyF : Nat → Prop := fun _ => True

def mapB (S : Seat) (t : TypeId) (y : Ty) (p : TypeId → Bool) : Bool := undB S t fun | .map k e => tyB S false k y && KeyTy y && p e | _ => false
theorem mapB_ok {t : TypeId} {y : Ty} {p : TypeId → Bool} (h : mapB S t y p = true) : ∃ k e, Und S t (.map k e) ∧ TyM S false k y ∧ KeyTy y = true ∧ p e = true := by
  obtain ⟨d, h1, h2⟩ := undB_ok h
  cases d <;> simp only [Bool.false_eq_true, Bool.and_eq_true] at h2
  exact ⟨_, _, h1, tyB_ok _ h2.1.1, h2.1.2, h2.2⟩

def opB (S : Seat) (o : Oper) (x : Op) : Bool := match x with
  | .mv _ => match o.op with | .move _ | .assign _ => true | _ => false
  | .pick _ _ _ => match o.op with | .pick _ _ _ => true | _ => false
  | .alloc zs => match o.op with | .alloc t => zeroMB S t zs | _ => false
  | .box _ => match o.op with | .box _ _ => true | _ => false
  | .load n agg _ => match o.op with | .load t _ => packB S t n agg | _ => false
  | .store n _ _ => match o.op with | .store t _ _ => sizeB S t n | _ => false
  | .nilCheck _ => match o.op with | .nilCheck _ => true | _ => false
  | .bin op _ _ => match o.op with | .binOp op' _ _ _ _ => decide (op = op') | _ => false
  | .eq neg y _ _ => match o.op with | .binOp op' t a b _ => decide (op' = if neg then .neq else .eql) && tyB S (isC a || isC b) t y && decide (tyD y ≤ 100) | _ => false
  | .un op _ => match o.op with | .unOp op' _ _ => decide (op = op') | _ => false
  | .mkIface t _ => match o.op with | .makeInterface u _ => u == S.τ t && undB S u (fun | .interface _ => false | _ => true) | _ => false
  | .mkFunc f a b => match o.op with | .makeFunc (.func g) fs cs => g == S.φ f && fs.size == a.length && cs.size == b.length | _ => false
  | .mkMap => match o.op with | .makeMap _ none => true | _ => false
  | .mkSlice size bytes zs _ _ => match o.op with
    | .makeSlice t _ _ => undB S t (fun | .slice e => sizeB S e size && bytesB S e bytes && zeroMB S e zs && zs.length == size | _ => false)
    | _ => false
  | .fieldAddr off _ => match o.op with
    | .fieldAddr t _ i => undB S t (fun | .struct fields => (match fields[i]? with | some f => f.offset == off && (match S.P.info? f.type with | some j => j.size != 0 | none => false) | none => false) | _ => false)
    | _ => false
  | .field off n agg _ => match o.op with
    | .field t _ i => undB S t (fun | .struct fields => (match fields[i]? with | some f => f.offset == off && packB S f.type n agg | none => false) | _ => false)
    | _ => false
  | .indexAddr s size _ _ => match o.op with
    | .indexAddr t _ _ => undB S t (fun | .slice e => decide (s = .slice) && sizeB S e size | .array n e => decide (s = .arr n) && sizeB S e size | _ => false)
    | _ => false
  | .index s size agg _ _ => match o.op with
    | .index t _ _ => undB S t (fun | .string => decide (s = .str) | .array n e => decide (s = .arr n) && packB S e size agg | _ => false)
    | _ => false
  | .lookup y zero ok _ _ => match o.op with | .lookup t _ _ ok' => ok == ok' && mapB S t y (fun e => zeroVB S e zero) | _ => false
  | .mapUpdate y _ _ _ => match o.op with | .mapUpdate t _ _ _ => mapB S t y (fun _ => true) | .insert t _ _ _ => mapB S t y (fun _ => true) | _ => false
  | .mapEntry y zero _ _ => match o.op with | .mapEntry t _ _ => mapB S t y (fun e => zeroVB S e zero) | _ => false
  | .entryStore _ _ _ => match o.op with | .entryStore _ _ _ _ => true | _ => false
  | .rangeStr _ => match o.op with | .range t _ => undB S t (fun | .string => true | _ => false) | _ => false
  | .rangeMap _ => match o.op with | .range t _ => undB S t (fun | .map _ _ => true | _ => false) | _ => false
  | .nextStr _ => match o.op with | .next _ true => true | _ => false
  | .nextMap _ => match o.op with | .next _ false => true | _ => false
  | .entry _ => match o.op with | .entry _ => true | _ => false
  | .extract _ i => match o.op with | .extract _ j => i == j | _ => false
  | .typeAssert t zero ok _ => match o.op with
    | .typeAssert _ _ u ok' => ok == ok' && u == S.τ t && undB S u (fun | .interface _ => false | _ => true) && zeroVB S u zero
    | _ => false
  | .panic _ => match o.op with | .panic _ => true | _ => false
  | _ => false

theorem opB_ok {o : Oper} {x : Op} (h : opB S o x = true) : OpSh S anyF o x := by
  cases x
  case mv => simp only [opB] at h; split at h <;> first | (rename_i e; exact .inl ⟨_, e⟩) | (rename_i e; exact .inr ⟨_, e⟩) | cases h
  case pick => simp only [opB] at h; split at h <;> first | (rename_i e; exact ⟨_, _, _, e⟩) | cases h
  case alloc => simp only [opB] at h; split at h <;> first | (rename_i e; exact ⟨_, e, zeroMB_ok h⟩) | cases h
  case box => simp only [opB] at h; split at h <;> first | (rename_i e; exact ⟨_, _, e⟩) | cases h
  case load => simp only [opB] at h; split at h <;> first | (rename_i e; exact ⟨_, _, e, packB_ok h⟩) | cases h
  case store => simp only [opB] at h; split at h <;> first | (rename_i e; exact ⟨_, _, _, e, sizeB_ok h⟩) | cases h
  case nilCheck => simp only [opB] at h; split at h <;> first | (rename_i e; exact ⟨_, e⟩) | cases h
  case bin => simp only [opB] at h; split at h <;> first | (rename_i e; have h' := of_decide_eq_true h; subst h'; exact ⟨_, _, _, _, e⟩) | cases h
  case eq => simp only [opB] at h; split at h <;> first | (rename_i e; simp only [Bool.and_eq_true, decide_eq_true_eq] at h; exact ⟨_, _, _, _, by rw [e, h.1.1], tyB_ok _ h.1.2, h.2⟩) | cases h
  case un => simp only [opB] at h; split at h <;> first | (rename_i e; have h' := of_decide_eq_true h; subst h'; exact ⟨_, _, e⟩) | cases h
  case mkIface =>
    simp only [opB] at h
    split at h
    · rename_i e
      simp only [Bool.and_eq_true, beq_iff_eq] at h
      obtain ⟨d, h1, h2⟩ := undB_ok h.2
      exact ⟨_, _, d, e, h.1, h1, fun ms hd => by subst hd; cases h2⟩
    · cases h
  case mkFunc =>
    simp only [opB] at h
    split at h
    · rename_i e
      simp only [Bool.and_eq_true, beq_iff_eq] at h
      exact ⟨_, _, by rw [e, h.1.1], h.1.2, h.2, trivial⟩
    · cases h
  case mkMap => simp only [opB] at h; split at h <;> first | (rename_i e; exact ⟨_, e⟩) | cases h
  case mkSlice =>
    simp only [opB] at h
    split at h
    · rename_i e
      obtain ⟨d, h1, h2⟩ := undB_ok h
      cases d <;> simp only [Bool.false_eq_true, Bool.and_eq_true, beq_iff_eq] at h2
      exact ⟨_, _, _, _, e, h1, sizeB_ok h2.1.1.1, bytesB_ok h2.1.1.2, zeroMB_ok h2.1.2, h2.2⟩
    · cases h
  case fieldAddr =>
    simp only [opB] at h
    split at h
    · rename_i e
      obtain ⟨d, h1, h2⟩ := undB_ok h
      cases d <;> simp only [Bool.false_eq_true] at h2
      split at h2
      · rename_i f hf
        simp only [Bool.and_eq_true, beq_iff_eq] at h2
        obtain ⟨h3, h4⟩ := h2
        split at h4
        · rename_i j hj
          exact ⟨_, _, _, _, f, j.size, e, h1, hf, h3, ⟨j, hj, rfl⟩, by simpa using h4⟩
        · cases h4
      · cases h2
    · cases h
  case field =>
    simp only [opB] at h
    split at h
    · rename_i e
      obtain ⟨d, h1, h2⟩ := undB_ok h
      cases d <;> simp only [Bool.false_eq_true] at h2
      split at h2
      · rename_i f hf
        simp only [Bool.and_eq_true, beq_iff_eq] at h2
        exact ⟨_, _, _, _, f, e, h1, hf, h2.1, packB_ok h2.2⟩
      · cases h2
    · cases h
  case indexAddr s size x i =>
    simp only [opB] at h
    split at h
    · rename_i e
      obtain ⟨d, h1, h2⟩ := undB_ok h
      cases d <;> simp only [Bool.false_eq_true, Bool.and_eq_true, decide_eq_true_eq] at h2
      · obtain ⟨rfl, h2⟩ := h2; exact ⟨_, _, _, _, e, sizeB_ok h2, h1⟩
      · obtain ⟨rfl, h2⟩ := h2; exact ⟨_, _, _, _, e, sizeB_ok h2, h1⟩
    · cases h
  case index s size agg x i =>
    simp only [opB] at h
    split at h
    · rename_i e
      obtain ⟨d, h1, h2⟩ := undB_ok h
      cases d <;> simp only [Bool.false_eq_true, Bool.and_eq_true, decide_eq_true_eq] at h2
      · subst h2; exact ⟨_, _, _, e, h1⟩
      · obtain ⟨rfl, h2⟩ := h2; exact ⟨_, _, _, e, _, h1, packB_ok h2⟩
    · cases h
  case lookup =>
    simp only [opB] at h
    split at h
    · rename_i e
      simp only [Bool.and_eq_true, beq_iff_eq] at h
      obtain ⟨k, el, h1, h2, h3, h4⟩ := mapB_ok h.2
      exact ⟨_, _, _, k, el, by rw [e, h.1], h1, h2, h3, zeroVB_ok h4⟩
    · cases h
  case mapUpdate =>
    simp only [opB] at h
    split at h
    · rename_i e
      obtain ⟨k, el, h1, h2, h3, h4⟩ := mapB_ok h
      exact ⟨_, _, _, _, k, el, .inl e, h1, h2, h3⟩
    · rename_i e
      obtain ⟨k, el, h1, h2, h3, h4⟩ := mapB_ok h
      exact ⟨_, _, _, _, k, el, .inr e, h1, h2, h3⟩
    · cases h
  case mapEntry =>
    simp only [opB] at h
    split at h
    · rename_i e
      obtain ⟨k, el, h1, h2, h3, h4⟩ := mapB_ok h
      exact ⟨_, _, _, k, el, e, h1, h2, h3, zeroVB_ok h4⟩
    · cases h
  case entryStore => simp only [opB] at h; split at h <;> first | (rename_i e; exact ⟨_, _, _, _, e⟩) | cases h
  case rangeStr =>
    simp only [opB] at h
    split at h
    · rename_i e
      obtain ⟨d, h1, h2⟩ := undB_ok h
      cases d <;> simp at h2
      exact ⟨_, _, e, h1⟩
    · cases h
  case rangeMap =>
    simp only [opB] at h
    split at h
    · rename_i e
      obtain ⟨d, h1, h2⟩ := undB_ok h
      cases d <;> simp at h2
      exact ⟨_, _, _, _, e, h1⟩
    · cases h
  case nextStr => simp only [opB] at h; split at h <;> first | (rename_i e; exact ⟨_, e⟩) | cases h
  case nextMap => simp only [opB] at h; split at h <;> first | (rename_i e; exact ⟨_, e⟩) | cases h
  case entry => simp only [opB] at h; split at h <;> first | (rename_i e; exact ⟨_, e⟩) | cases h
  case extract => simp only [opB] at h; split at h <;> first | (rename_i e; exact ⟨_, by rw [e]; simp at h; rw [h]⟩) | cases h
  case typeAssert =>
    simp only [opB] at h
    split at h
    · rename_i e
      simp only [Bool.and_eq_true, beq_iff_eq] at h
      obtain ⟨d, h1, h2⟩ := undB_ok h.1.2
      exact ⟨_, _, _, d, by rw [e, h.1.1.1], h.1.1.2, h1, fun ms hd => by (subst hd; cases h2), zeroVB_ok h.2⟩
    · cases h
  case panic => simp only [opB] at h; split at h <;> first | (rename_i e; exact ⟨_, e⟩) | cases h
  all_goals (simp only [opB, Bool.false_eq_true] at h)

end Cub
