/-
  One operation of the evaluator, quiet or not, says what the model says. Conditions: none.
-/
import Derived.Test.YtbnclikjbnfodaaFvC
namespace Go.Ev
open RowKit (Below)

def Agree (n : Nat) (μ μ' : Mu) : Prop := ∀ id, id < n → μ' id = μ id
theorem Agree.refl (n : Nat) (μ : Mu) : Agree n μ μ := fun _ _ => rfl
theorem Agree.mono {n k : Nat} {μ μ' : Mu} (h : Agree n μ μ') (hk : k ≤ n) : Agree k μ μ' := fun i hi => h i (by omega)
theorem Agree.trans {n : Nat} {a b c : Mu} (h : Agree n a b) (k : Agree n b c) : Agree n a c := fun i hi => (k i hi).trans (h i hi)

/-- What holds from a call's begin on: memory of others below B, the naming of what the caller has made. -/
structure Ctx where
  B : Blk
  w0 : World
  n0 : Nat
  μ0 : Mu

structure RelA (C : Ctx) (μ : Mu) (s : St) (a : Act) (w : World) : Prop where
  all : ∀ μ', Agree s.mem.length μ μ' → Rel μ' C.B C.w0 s.mem w ∧ a = act μ' s.tmps
  ext : Agree C.n0 C.μ0 μ
  len : C.n0 ≤ s.mem.length

/-- The memory alone. -/
structure RelM (C : Ctx) (μ : Mu) (m : List V) (w : World) : Prop where
  all : ∀ μ', Agree m.length μ μ' → Rel μ' C.B C.w0 m w
  ext : Agree C.n0 C.μ0 μ
  len : C.n0 ≤ m.length

theorem Rel.grow {μ : Mu} {B : Blk} {w0 w w' : World} {m : List V} (h : Rel μ B w0 m w) (hB : Under B w) (hb : Below w.heap.size w w') : Rel μ B w0 m w' := by
  refine ⟨h.below.trans (Keeps.of hb hB), fun id v hv => ?_, h.inj⟩
  have h1 := h.hold id v hv
  exact h1.keep (hb.block _ h1.lt)

theorem Rel.size {μ : Mu} {B : Blk} {w0 w : World} {m : List V} (h : Rel μ B w0 m w) (hB : Under B w0) : Under B w := fun k hk => Nat.lt_of_lt_of_le (hB k hk) h.below.size

/-- What a pure callee's contract says. -/
def PureAt (P : Program) (f : FuncId) (args : Array Value) (v : Value) (w : World) : Prop :=
  (callFunc f args).run P w = .ok (.value v) w ∨
  ((callFunc f args).run P w = .ok (.enter f args) w ∧ Calls P f args w fun e w' => e = .returned v ∧ Below w.heap.size w w')

def OrcOK (P : Program) (F : Orc) : Prop :=
  (∀ f vs m v, F f vs m = some (true, v) → (∀ μ μ', Agree m.length μ μ' → v.den μ' = v.den μ) ∧
    ∀ μ B w0 w, Under B w0 → Rel μ B w0 m w → PureAt P f (vs.map (V.den μ)).toArray (v.den μ) w) ∧
  ∀ f vs m z r, F f vs m = some r → F f vs (m ++ [z]) = some r

def Quiet1 (P : Program) (a : Act) (o : Oper) (w : World) (v : Value) (st : Prop) : Prop :=
  (execOp a.eval o).run P w = .ok (.value v) w ∨
  ∃ f args, st ∧ (execOp a.eval o).run P w = .ok (.enter f args) w ∧ Calls P f args w fun e w' => e = .returned v ∧ Below w.heap.size w w'

section
variable {P : Program} {F : Orc}

theorem exec_call {μ : Mu} {t : List V} {c : Call} {f : FuncId} {vs : List V} {o : Oper} (ho : o.op = .call c) (hc : c.callee = .value (.func f)) (hv : evs t c.args.toList = some vs) (w : World) :
    (execOp (act μ t).eval o).run P w = (callFunc f (vs.map (V.den μ)).toArray).run P w := by
  have ha : c.args.map (act μ t).eval = (vs.map (V.den μ)).toArray := by
    rw [← Array.toList_inj, Array.toList_map]; exact evs_den hv
  unfold execOp
  simp only [ho, resolve, hc, ha, Act.eval, Deferred.ofValue, Sem.run_bind, Sem.run_pure, Result.andThen_ok, invoke]
  simp

theorem run_loadV {μ : Mu} {B : Blk} {w0 w : World} {m : List V} (hr : Rel μ B w0 m w) {t : TypeId} {a v : V} (h : loadV P m t a = some (true, v)) :
    (Instr.loadAt t (a.den μ)).run P w = .ok (v.den μ) w := by
  cases a <;> try (simp [loadV] at h; done)
  · simp only [Instr.loadAt, V.den, Instr.sureAddr, Sem.run_bind, Sem.run_pure, Result.andThen_ok]
    exact run_loadVar hr h
  · unfold loadV at h
    split at h
    · rename_i he; cases he
    · rename_i g off he
      cases he
      split at h
      · rename_i id hid
        have hr' := run_loadVar (P := P) (id := id) (off := off) (t := t) (v := v) hr h
        rw [hr.global hid, Nat.zero_add] at hr'
        simp only [Instr.loadAt, V.den, Instr.sureAddr, Sem.run_bind, Sem.run_pure, Result.andThen_ok]
        exact hr'
      · cases h
    · cases h

theorem run_mapM_list {α β : Type} {f : α → Sem β} {g : α → β} {w : World} : ∀ {l : List α}, (∀ x ∈ l, (f x).run P w = .ok (g x) w) → (l.mapM f).run P w = .ok (l.map g) w
  | [], _ => by simp
  | x :: l, h => by
    rw [List.mapM_cons]
    simp only [Sem.run_bind, h x (by simp), Result.andThen_ok, run_mapM_list (l := l) (fun y hy => h y (by simp [hy])), Sem.run_pure, List.map_cons]

theorem run_mapM {α β : Type} {f : α → Sem β} {g : α → β} {w : World} {l : Array α} (h : ∀ x ∈ l, (f x).run P w = .ok (g x) w) : (l.mapM f).run P w = .ok (l.map g) w := by
  rw [Array.mapM_eq_mapM_toList, map_eq_pure_bind]
  simp only [Sem.run_bind, run_mapM_list (l := l.toList) (g := g) (fun x hx => h x (by simpa using hx)), Result.andThen_ok, Sem.run_pure]
  congr 1
  rw [← Array.toList_inj]; simp

theorem isAgg_agg {μ : Mu} {z : V} (h : z.isAgg = true) : ∃ a, z.den μ = .agg a := by
  cases z <;> simp [V.isAgg] at h <;> exact ⟨_, by simp [V.den]; rfl⟩

theorem run_buildV {μ : Mu} {t : TypeId} {ps : List (Nat × V)} {v : V} (h : buildV P t ps = some (true, v)) (w : World) :
    (Instr.build t (ps.map fun p => (p.1, p.2.den μ)).toArray).run P w = .ok (v.den μ) w := by
  unfold buildV at h
  split at h
  · rename_i pl z hpl hz
    have hzr := run_zeroV (μ := μ) hz w
    cases hza : z.isAgg with
    | false => rw [hza] at h; simp at h
    | true =>
    rw [hza] at h
    simp only [cond_true] at h
    have hz2 := isAgg_agg (μ := μ) hza
    have hv2 := lay_agg h hz2
    unfold placeOf at hpl
    split at hpl
    · rename_i fs hu
      cases hall : fs.toList.all (fun f => (P.info? f.type).isSome) with
      | false => rw [hall] at hpl; simp at hpl
      | true =>
      rw [hall] at hpl
      simp only [Bool.not_true, cond_false, Option.some.injEq] at hpl
      have hf : ∀ f ∈ fs, ∃ i, P.info? f.type = some i := by
        intro f hf
        have := List.all_eq_true.1 hall f (by simpa using hf)
        exact Option.isSome_iff_exists.1 this
      have hm : (fs.mapM fun f => do pure (f.offset, ← sizeOf f.type) : Sem (Array (Nat × Nat))).run P w = .ok (fs.map fun f => (f.offset, P.cellsOf f.type)) w := by
        refine run_mapM fun f hfm => ?_
        obtain ⟨i, hi⟩ := hf f hfm
        simp only [Sem.run_bind, run_size hi, Result.andThen_ok, Sem.run_pure, Program.cellsOf, hi, Option.map_some, Option.getD_some]
      have hfill := fill_lay (μ := μ) (P := P) (place := ((fs.map fun f => (f.offset, P.cellsOf f.type))[·]?)) (pl := pl) ?_ h
      · unfold Instr.build
        simp only [Sem.run_bind, hzr, Result.andThen_ok, run_underlying hu, hm, hfill, Sem.run_pure]
        rw [cells_back hv2]
      · intro i off e hpe
        subst hpl
        simp only at hpe
        split at hpe
        · rename_i f hfi
          simp only [Option.some.injEq, Prod.mk.injEq] at hpe
          obtain ⟨rfl, rfl⟩ := hpe
          obtain ⟨ti, hti⟩ := hf f (Array.mem_of_getElem? hfi)
          exact ⟨ti, hti, by simp [hfi, Program.cellsOf, hti]⟩
        · simp at hpe
    · rename_i n e hu
      split at hpl
      · rename_i ti hti
        simp only [Option.some.injEq] at hpl
        have hfill := fill_lay (μ := μ) (P := P) (place := fun i => some (i * ti.size, ti.size)) (pl := pl) (fun i off e' hpe => by
          subst hpl; simp only [Option.some.injEq, Prod.mk.injEq] at hpe
          obtain ⟨rfl, rfl⟩ := hpe
          exact ⟨ti, hti, rfl⟩) h
        unfold Instr.build
        simp only [Sem.run_bind, hzr, Result.andThen_ok, run_underlying hu, run_size hti, hfill, Sem.run_pure]
        rw [cells_back hv2]
      · simp at hpl
    · simp at hpl
  · simp at h

theorem run_bsl_core {μ : Mu} {t e : TypeId} {len m : Nat} {i : TypeInfo} {z z2 c : V} {ps : List (Nat × V)} (hu : P.underlying t = some (.slice e)) (hi : P.info? e = some i) (hz : zeroV P e = some z)
    (hm : (z.den μ).cells.size = m) (c1 : m = i.size) (c2 : len * m ≤ 16777216)
    (hcells : (Array.range (len * m)).map (fun x => (z.den μ).cells[x % (z.den μ).cells.size]!) = (z2.den μ).cells)
    (h : layV P (fun j => some (j * i.size, e)) z2 ps = some (true, c)) (w : World) :
    ∃ e, (Instr.buildSlice t len (ps.map fun p => (p.1, p.2.den μ)).toArray).run P w = .ok (.slice (some ⟨w.heap.size, 0, none⟩) len len) { w with heap := w.heap.push (.cells (c.den μ).cells e) } := by
  subst c1
  have hzr := run_zeroV (μ := μ) hz w
  have hfill := fill_lay (μ := μ) (P := P) (place := fun j => some (j * i.size, i.size)) (pl := fun j => some (j * i.size, e)) (fun j off e' hpe => by
    simp only [Option.some.injEq, Prod.mk.injEq] at hpe
    obtain ⟨rfl, rfl⟩ := hpe
    exact ⟨i, hi, rfl⟩) h
  refine ⟨e, ?_⟩
  unfold Instr.buildSlice
  simp only [Sem.run_bind, run_underlying hu, Result.andThen_ok, run_size hi]
  rw [if_neg (by omega)]
  by_cases h0 : len * i.size = 0
  · rw [if_pos h0]
    have r0 : ∀ f : Nat → Value, (Array.range (len * i.size)).map f = (z2.den μ).cells := fun f => by
      rw [← hcells, h0]; apply Array.ext <;> simp
    simp only [Sem.run_bind, Sem.run_pure, Result.andThen_ok, r0, hfill, newRow, newObj, Sem.run]
  · rw [if_neg h0]
    simp only [Sem.run_bind, Sem.run_pure, Result.andThen_ok, hzr, hcells, hfill, newRow, newObj, Sem.run]
theorem zero_ints {μ : Mu} {k : IntKind} {m len : Nat} {f : Nat → Int} (hpos : 0 < m) : (Array.range (len * m)).map (fun x => ((V.ints k m f).den μ).cells[x % ((V.ints k m f).den μ).cells.size]!) = ((V.ints k (len * m) (fun j => f (j % m))).den μ).cells := by
  rw [cells_ints, cells_ints]
  apply Array.ext
  · simp
  · intro x h1 h2
    have : x % m < m := Nat.mod_lt _ hpos
    simp [this]
theorem zero_int {μ : Mu} {k : IntKind} {len : Nat} {n : Int} : (Array.range (len * 1)).map (fun x => ((V.int k n).den μ).cells[x % ((V.int k n).den μ).cells.size]!) = ((V.ints k len (fun _ => n)).den μ).cells := by
  rw [cells_ints]
  apply Array.ext
  · simp
  · intro x h1 h2
    simp [V.den, Value.cells, Nat.mod_one]
theorem zero_bool {μ : Mu} {len : Nat} {b : Bool} : (Array.range (len * 1)).map (fun x => ((V.bool b).den μ).cells[x % ((V.bool b).den μ).cells.size]!) = ((V.bools len (fun _ => b)).den μ).cells := by
  rw [cells_bools]
  apply Array.ext
  · simp
  · intro x h1 h2
    simp [V.den, Value.cells, Nat.mod_one]
theorem run_bslV {μ : Mu} {t : TypeId} {len : Nat} {ps : List (Nat × V)} {c : V} (h : bslV P t len ps = some (true, c)) (w : World) :
    ∃ e, (Instr.buildSlice t len (ps.map fun p => (p.1, p.2.den μ)).toArray).run P w = .ok (.slice (some ⟨w.heap.size, 0, none⟩) len len) { w with heap := w.heap.push (.cells (c.den μ).cells e) } := by
  unfold bslV at h
  split at h
  · rename_i e hu
    split at h
    · rename_i i k m f hi hz
      cases hc : (Nat.beq m i.size && Nat.ble (len * m) 16777216 && Nat.blt 0 (len * m)) with
      | false => rw [hc] at h; simp at h
      | true =>
        rw [hc, cond_true] at h
        simp only [Bool.and_eq_true] at hc
        obtain ⟨⟨c1, c2⟩, c3⟩ := hc
        have c3 := bltT.1 c3
        exact run_bsl_core hu hi hz (m := m) (by rw [cells_ints]; simp) (beqT.1 c1) (bleT.1 c2) (zero_ints (Nat.pos_of_mul_pos_left c3)) h w
    · rename_i i k n hi hz
      cases hc : (Nat.beq 1 i.size && Nat.ble len 16777216 && Nat.blt 0 len) with
      | false => rw [hc] at h; simp at h
      | true =>
        rw [hc, cond_true] at h
        simp only [Bool.and_eq_true] at hc
        obtain ⟨⟨c1, c2⟩, c3⟩ := hc
        have c2 := bleT.1 c2; have c3 := bltT.1 c3
        exact run_bsl_core hu hi hz (m := 1) (by simp [V.den, Value.cells]) (beqT.1 c1) (by omega) zero_int h w
    · rename_i i b hi hz
      cases hc : (Nat.beq 1 i.size && Nat.ble len 16777216) with
      | false => rw [hc] at h; simp at h
      | true =>
        rw [hc, cond_true] at h
        simp only [Bool.and_eq_true] at hc
        obtain ⟨c1, c2⟩ := hc
        have c2 := bleT.1 c2
        exact run_bsl_core hu hi hz (m := 1) (by simp [V.den, Value.cells]) (beqT.1 c1) (by omega) zero_bool h w
    · simp at h
  · simp at h

theorem msl_nil {μ : Mu} {t : TypeId} {c : Int} {b : V} (h : mslV P t c = some (true, b)) :
    ∃ e i z, P.underlying t = some (.slice e) ∧ P.info? e = some i ∧ zeroV P e = some z ∧ i.bytes * c.toNat ≤ 281474976710656 ∧ 0 ≤ c ∧ (Array.range (c.toNat * i.size)).map (fun x => (z.den μ).cells[x % (z.den μ).cells.size]!) = (b.den μ).cells := by
  unfold mslV at h
  split at h
  · rename_i e hu
    split at h
    · rename_i i k m f hi hz
      simp only [Option.some.injEq, Prod.mk.injEq, Bool.and_eq_true, decide_eq_true_eq] at h
      obtain ⟨⟨⟨⟨c1, c2⟩, c3⟩, c4⟩, rfl⟩ := h
      have c1 := beqT.1 c1; have c2 := bltT.1 c2; have c3 := bleT.1 c3
      subst c1
      exact ⟨e, i, _, hu, hi, hz, c3, c4, zero_ints c2⟩
    · rename_i i k n hi hz
      simp only [Option.some.injEq, Prod.mk.injEq, Bool.and_eq_true, decide_eq_true_eq] at h
      obtain ⟨⟨⟨c1, c3⟩, c4⟩, rfl⟩ := h
      have c1 := beqT.1 c1; have c3 := bleT.1 c3
      exact ⟨e, i, _, hu, hi, hz, c3, c4, by rw [← c1]; exact zero_int⟩
    · rename_i i b' hi hz
      simp only [Option.some.injEq, Prod.mk.injEq, Bool.and_eq_true, decide_eq_true_eq] at h
      obtain ⟨⟨⟨c1, c3⟩, c4⟩, rfl⟩ := h
      have c1 := beqT.1 c1; have c3 := bleT.1 c3
      exact ⟨e, i, _, hu, hi, hz, c3, c4, by rw [← c1]; exact zero_bool⟩
    · simp at h
  · simp at h
theorem run_askRoom' (n : Nat) (w : World) : (askRoom n).run P w = .ok () w := by
  unfold askRoom
  split <;> simp [mark, Sem.run]
theorem run_mslV {μ : Mu} {t : TypeId} {n m : Int} {b : V} (h : mslV P t m = some (true, b)) (hn : 0 ≤ n ∧ n ≤ m ∧ m ≤ 16777216) (k k' : IntKind) (w : World) :
    ∃ e, (Instr.makeSlice t (.int k n) (.int k' m)).run P w = .ok (.slice (some ⟨w.heap.size, 0, none⟩) n.toNat m.toNat) { w with heap := w.heap.push (.cells (b.den μ).cells e) } := by
  obtain ⟨e, i, z, hu, hi, hz, hb, h0, hcells⟩ := msl_nil (μ := μ) h
  obtain ⟨M, rfl⟩ := Int.eq_ofNat_of_zero_le h0
  obtain ⟨N, rfl⟩ := Int.eq_ofNat_of_zero_le hn.1
  rw [Int.toNat_natCast] at *
  have w1 : IntKind.i64.wrap (M : Int) = M := IntWalk.i64_in _ (by omega)
  have w2 : IntKind.i64.wrap (N : Int) = N := IntWalk.i64_in _ (by omega)
  have hb' : ¬ ((i.bytes : Int) * (M : Int) > 2 ^ 48) := by
    have : ((i.bytes * M : Nat) : Int) ≤ 281474976710656 := by omega
    rw [Int.natCast_mul] at this
    have e2 : (2 : Int) ^ 48 = 281474976710656 := by decide
    omega
  have hzr := run_zeroV (μ := μ) hz w
  refine ⟨e, ?_⟩
  unfold Instr.makeSlice
  simp only [Sem.run_bind, run_underlying hu, Result.andThen_ok, asInt, asIntOf, Sem.run_pure, w1, w2]
  have ht : (typeInfo e).run P w = .ok i w := by simp [typeInfo, hi]
  simp only [ht, Result.andThen_ok]
  rw [if_neg (by simp only [Bool.or_eq_true, decide_eq_true_eq]; omega)]
  simp only [Sem.run_bind, run_askRoom', Result.andThen_ok, run_size hi, Int.toNat_natCast]
  by_cases hz0 : M * i.size = 0
  · rw [if_pos hz0]
    have r0 : ∀ f : Nat → Value, (Array.range 0).map f = #[] := fun f => by apply Array.ext <;> simp
    have e0 : (b.den μ).cells = #[] := by rw [← hcells, hz0]; exact r0 _
    simp only [Sem.run_bind, Result.andThen_ok, Sem.run_pure, hz0, e0, r0, newRow, newObj, Sem.run]
  · rw [if_neg hz0]
    simp only [Sem.run_bind, hzr, Result.andThen_ok, Sem.run_pure, hcells, newRow, newObj, Sem.run]

theorem run_sliceV {μ : Mu} {ty : TypeId} {x v : V} {lo hi : Option V} (h : sliceV P ty x lo hi = some (true, v)) (w : World) :
    (Instr.sliceAt ty (x.den μ) (lo.map (V.den μ)) (hi.map (V.den μ)) none).run P w = .ok (v.den μ) w := by
  unfold sliceV at h
  split at h
  · rename_i id off len cap e hpl
    split at h
    · rename_i ei kl l kh hh hei hl hh'
      simp only [Option.some.injEq, Prod.mk.injEq, decide_eq_true_eq] at h
      obtain ⟨⟨hl0, hlh, hhc⟩, rfl⟩ := h
      obtain ⟨ln, rfl⟩ := Int.eq_ofNat_of_zero_le hl0
      obtain ⟨hn, rfl⟩ := Int.eq_ofNat_of_zero_le (show 0 ≤ hh by omega)
      have low : (lo.map (V.den μ) = some (.int kl ln)) ∨ (lo = none ∧ ln = 0) := by
        cases lo with
        | none => simp only [V.int.injEq] at hl; exact .inr ⟨rfl, by omega⟩
        | some q => simp only at hl; subst hl; exact .inl (by simp [V.den])
      have high : (hi.map (V.den μ) = some (.int kh hn)) ∨ (hi = none ∧ hn = len) := by
        cases hi with
        | none => simp only [V.int.injEq] at hh'; exact .inr ⟨rfl, by omega⟩
        | some q => simp only at hh'; subst hh'; exact .inl (by simp [V.den])
      have n1 : ln ≤ hn := by omega
      have n2 : hn ≤ cap := by omega
      have fin : (if cap = ln then (⟨(μ id).1, (μ id).2 + off, none⟩ : Addr) else (⟨(μ id).1, (μ id).2 + off, none⟩ : Addr).add (ln * ei.size)) = ⟨(μ id).1, (μ id).2 + (off + slo cap (ln : Int).toNat ei.size), none⟩ := by
        rw [Int.toNat_natCast]
        unfold slo
        by_cases hc : cap = ln
        · rw [if_pos hc]
          have : Nat.beq cap ln = true := beqT.2 hc
          rw [this]; cases Nat.beq ln 0 <;> simp
        · rw [if_neg hc, Addr.add_lit]
          have : Nat.beq cap ln = false := by cases e : Nat.beq cap ln with | false => rfl | true => exact absurd (beqT.1 e) hc
          rw [this]
          cases ln with
          | zero => simp [Nat.beq]
          | succ ln => have e : Nat.beq (ln + 1) 0 = false := rfl
                       rw [e]; simp [Nat.add_assoc]
      have fin' : (V.sl id (off + slo cap (ln : Int).toNat ei.size) ((hn : Int).toNat - (ln : Int).toNat) (cap - (ln : Int).toNat)).den μ = .slice (some (if cap = ln then (⟨(μ id).1, (μ id).2 + off, none⟩ : Addr) else (⟨(μ id).1, (μ id).2 + off, none⟩ : Addr).add (ln * ei.size))) (hn - ln) (cap - ln) := by
        rw [fin]; simp [V.den]
      have fin2 : (if cap = ln then (some (⟨(μ id).1, (μ id).2 + off, none⟩ : Addr)) else some ((⟨(μ id).1, (μ id).2 + off, none⟩ : Addr).add (ln * ei.size))) = some (if cap = ln then (⟨(μ id).1, (μ id).2 + off, none⟩ : Addr) else (⟨(μ id).1, (μ id).2 + off, none⟩ : Addr).add (ln * ei.size)) := by split <;> rfl
      rw [fin']
      have bounds : ∀ b : Bool, (Instr.sliceBounds b len cap (lo.map (V.den μ)) (hi.map (V.den μ)) none).run P w = .ok (ln, hn, cap) w := by
        intro b
        rcases low with low | ⟨rfl, low⟩ <;> rcases high with high | ⟨rfl, high⟩
        · rw [low, high]; cases b <;> simp [Instr.sliceBounds, Instr.sliceBound, asIntOf, n1, n2]
        · rw [low]; cases b <;> simp [Instr.sliceBounds, Instr.sliceBound, asIntOf, ← high, n1]
        · rw [high]; cases b <;> simp [Instr.sliceBounds, Instr.sliceBound, asIntOf, low, n2]
        · cases b <;> simp [Instr.sliceBounds, low, high]
      split at hpl
      · rename_i id' off' n e' hu
        simp only [Option.some.injEq, Prod.mk.injEq] at hpl
        obtain ⟨rfl, rfl, rfl, rfl, rfl⟩ := hpl
        simp only [Instr.sliceAt, V.den, Sem.run_bind, run_underlying hu, Result.andThen_ok, Instr.sureAddr, Sem.run_pure, bounds, run_size hei]
      · rename_i id' off' len' cap' e' hu
        simp only [Option.some.injEq, Prod.mk.injEq] at hpl
        obtain ⟨rfl, rfl, rfl, rfl, rfl⟩ := hpl
        simp only [Instr.sliceAt, Instr.slice, V.den, Sem.run_bind, run_underlying hu, Result.andThen_ok, Sem.run_pure, bounds, run_size hei, Option.map_some, fin2]
      · cases hpl
    · simp at h
  · split at h
    · rename_i hu _
      split at h
      · rename_i ei kl l kh hh hei hl hh'
        simp only [Option.some.injEq, Prod.mk.injEq, decide_eq_true_eq] at h
        obtain ⟨⟨hl0, hlh, hhc⟩, rfl⟩ := h
        obtain rfl : l = 0 := by omega
        obtain rfl : hh = 0 := by omega
        have low : (lo.map (V.den μ) = some (.int kl 0)) ∨ lo = none := by
          cases lo with
          | none => exact .inr rfl
          | some q => simp only at hl; subst hl; exact .inl (by simp [V.den])
        have high : (hi.map (V.den μ) = some (.int kh 0)) ∨ hi = none := by
          cases hi with
          | none => exact .inr rfl
          | some q => simp only at hh'; subst hh'; exact .inl (by simp [V.den])
        have bounds : (Instr.sliceBounds true 0 0 (lo.map (V.den μ)) (hi.map (V.den μ)) none).run P w = .ok (0, 0, 0) w := by
          rcases low with low | rfl <;> rcases high with high | rfl
          · rw [low, high]; simp [Instr.sliceBounds, Instr.sliceBound, asIntOf]
          · rw [low]; simp [Instr.sliceBounds, Instr.sliceBound, asIntOf]
          · rw [high]; simp [Instr.sliceBounds, Instr.sliceBound, asIntOf]
          · simp [Instr.sliceBounds]
        simp only [Instr.sliceAt, Instr.slice, V.den, Sem.run_bind, run_underlying hu, Result.andThen_ok, Sem.run_pure, bounds, run_size hei]
        simp
      · simp at h
    · simp at h

theorem tup_get {μ : Mu} {l : List V} {i : Nat} {v : V} (h : l[i]? = some v) : (V.dens μ l).toArray[i]? = some (v.den μ) := by
  rw [dens_map]; simp [h]

theorem not_scalar_cells {μ : Mu} {a v : V} {off : Nat} {k : Option Nat} (h : a.scalar = false) (hr : rd a off k = some (true, v)) : a.den μ = .agg (a.den μ).cells := by
  cases a <;> simp [V.scalar] at h <;> first | (simp [V.den, Value.cells]; done) | (simp [rd] at hr)

theorem quiet_sound (hF : OrcOK P F) {μ : Mu} {B : Blk} {w0 w : World} {m t : List V} {o : Oper} {v : V} (hB : Under B w0) (hr : Rel μ B w0 m w)
    (h : opv P F m t o.op = some (true, v)) : Quiet1 P (act μ t) o w (v.den μ) (∀ μ μ', Agree m.length μ μ' → v.den μ' = v.den μ) := by
  have E : ∀ {x : Operand} {u : V}, ev t x = some u → (act μ t).eval x = u.den μ := fun h => ev_den h
  unfold opv at h
  split at h
  · -- move
    rename_i x hop
    split at h
    · rename_i u hu
      simp only [Option.some.injEq, Prod.mk.injEq, true_and] at h; subst h
      refine .inl ?_
      simp [execOp, hop, E hu]
    · simp at h
  · -- assign
    rename_i x hop
    split at h
    · rename_i u hu
      simp only [Option.some.injEq, Prod.mk.injEq, true_and] at h; subst h
      refine .inl ?_
      simp [execOp, hop, E hu]
    · simp at h
  · -- pick
    rename_i c a b hop
    split at h
    · rename_i q hq
      have hq := E hq
      simp only [V.den] at hq
      cases q <;> simp only at h <;> split at h
      · rename_i u hu
        simp only [Option.some.injEq, Prod.mk.injEq, true_and] at h; subst h
        refine .inl ?_
        simp [execOp, hop, hq, E hu, asBool]
      · simp at h
      · rename_i u hu
        simp only [Option.some.injEq, Prod.mk.injEq, true_and] at h; subst h
        refine .inl ?_
        simp [execOp, hop, hq, E hu, asBool]
      · simp at h
    · simp at h
  · -- load
    rename_i ty a hop
    split at h
    · rename_i u hu
      refine .inl ?_
      simp only [execOp, hop, E hu, Sem.run_bind, run_loadV hr h, Result.andThen_ok, Sem.run_pure]
    · simp at h
  · -- nilCheck
    rename_i x hop
    split at h
    · rename_i id off hu
      simp only [Option.some.injEq, Prod.mk.injEq, true_and] at h; subst h
      refine .inl ?_
      have := E hu
      simp only [V.den] at this
      simp [execOp, hop, this, V.den]
    · simp at h
  · -- binOp
    rename_i bop ty x y yt hop
    split at h
    · rename_i a b ha hb
      refine .inl ?_
      have := run_binV (μ := μ) h x y w
      simp only [execOp, hop, E ha, E hb, Sem.run_bind] at this ⊢
      simp only [this, Result.andThen_ok, Sem.run_pure]
    · simp at h
  · -- unOp
    rename_i uop ty x hop
    split at h
    · rename_i a ha
      refine .inl ?_
      simp only [execOp, hop, E ha, Sem.run_bind, run_unV h, Result.andThen_ok, Sem.run_pure]
    · simp at h
  · -- convert
    rename_i s d x hop
    split at h
    · rename_i k n hs hd hx
      simp only [Option.some.injEq, Prod.mk.injEq, true_and] at h; subst h
      refine .inl ?_
      have := E hx
      simp only [V.den] at this
      simp only [execOp, hop, this, Sem.run_bind, convert, run_underlying hs, run_underlying hd, Result.andThen_ok, Conv.intToInt, Sem.run_pure, V.den]
    · simp at h
  · -- build
    rename_i ty ps hop
    split at h
    · rename_i vs hvs
      refine .inl ?_
      have hp : ps.map (fun p => (p.1, (act μ t).eval p.2)) = (vs.map fun p => (p.1, p.2.den μ)).toArray := by
        rw [← Array.toList_inj, Array.toList_map]; exact evParts_den hvs
      have hb := run_buildV (μ := μ) h w
      rw [← hp] at hb
      simp only [execOp, hop, Sem.run_bind]
      rw [show (ps.map fun x => match x with | (i, x) => (i, (act μ t).eval x)) = ps.map (fun p => (p.1, (act μ t).eval p.2)) from rfl, hb]
      simp only [Result.andThen_ok, Sem.run_pure]
    · simp at h
  · -- fieldAddr
    rename_i s x f hop
    split at h
    · rename_i a ha
      refine .inl ?_
      unfold fieldAtV at h
      split at h
      · rename_i id off fs hu
        split at h
        · rename_i fl hfl
          split at h
          · rename_i ti hti
            simp only [Option.some.injEq, Prod.mk.injEq] at h
            obtain ⟨h1, rfl⟩ := h
            have h1 : ti.size ≠ 0 := by
              intro e; rw [e] at h1; simp at h1
            have := E ha
            simp only [V.den] at this
            have hadd : (⟨(μ id).1, (μ id).2 + off, none⟩ : Addr).add fl.offset = ⟨(μ id).1, (μ id).2 + (off + fl.offset), none⟩ := by
              unfold Addr.add; split <;> simp_all [Nat.add_assoc]
            simp only [execOp, hop, this, Sem.run_bind, Instr.fieldAt, run_underlying hu, Result.andThen_ok, hfl, Instr.sureAddr, Sem.run_pure, fieldPlace, run_size hti, h1, if_false, hadd, V.den]
          · simp at h
        · simp at h
      · simp at h
    · simp at h
  · -- indexAddr
    rename_i s x i hop
    split at h
    · rename_i a b ha hb
      refine .inl ?_
      unfold indexAtV at h
      split at h
      · rename_i id off k n len e hu
        split at h
        · rename_i ti hti
          simp only [Option.some.injEq, Prod.mk.injEq, decide_eq_true_eq] at h
          obtain ⟨h1, rfl⟩ := h
          have e1 := E ha
          have e2 := E hb
          simp only [V.den] at e1 e2
          have hadd : (⟨(μ id).1, (μ id).2 + off, none⟩ : Addr).add (n.toNat * ti.size) = ⟨(μ id).1, (μ id).2 + (off + n.toNat * ti.size), none⟩ := by
            unfold Addr.add; split <;> simp_all [Nat.add_assoc]
          simp only [execOp, hop, e1, e2, Sem.run_bind, Instr.indexAt, asIntOf, run_underlying hu, Result.andThen_ok, Instr.sureAddr, Sem.run_pure, h1, and_self, if_true, run_size hti, hadd, V.den]
        · simp at h
      · rename_i g off k n len e hu
        split at h
        · rename_i ti hti
          simp only [Option.some.injEq, Prod.mk.injEq, decide_eq_true_eq] at h
          obtain ⟨h1, rfl⟩ := h
          have e1 := E ha
          have e2 := E hb
          simp only [V.den] at e1 e2
          have hadd : (⟨g, off, none⟩ : Addr).add (n.toNat * ti.size) = ⟨g, off + n.toNat * ti.size, none⟩ := by
            unfold Addr.add; split <;> simp_all
          simp only [execOp, hop, e1, e2, Sem.run_bind, Instr.indexAt, asIntOf, run_underlying hu, Result.andThen_ok, Instr.sureAddr, Sem.run_pure, h1, and_self, if_true, run_size hti, hadd, V.den]
        · simp at h
      · rename_i id off len cp k n e hu
        split at h
        · rename_i ti hti
          simp only [Option.some.injEq, Prod.mk.injEq, decide_eq_true_eq] at h
          obtain ⟨h1, rfl⟩ := h
          have e1 := E ha
          have e2 := E hb
          simp only [V.den] at e1 e2
          have hadd : (⟨(μ id).1, (μ id).2 + off, none⟩ : Addr).add (n.toNat * ti.size) = ⟨(μ id).1, (μ id).2 + (off + n.toNat * ti.size), none⟩ := by
            unfold Addr.add; split <;> simp_all [Nat.add_assoc]
          simp only [execOp, hop, e1, e2, Sem.run_bind, Instr.indexAt, asIntOf, run_underlying hu, Result.andThen_ok, Sem.run_pure, h1, and_self, if_true, run_size hti, hadd, V.den]
        · simp at h
      · simp at h
    · simp at h
  · -- field
    rename_i s x f hop
    split at h
    · rename_i a ha
      refine .inl ?_
      unfold fieldV at h
      split at h
      · rename_i fs hu
        split at h
        · rename_i fl hfl
          split at h
          · rename_i k hk
            split at h
            · rename_i hsc
              have hag := not_scalar_cells (μ := μ) hsc h
              have hp := run_part (μ := μ) hk h w
              simp only [execOp, hop, E ha, Sem.run_bind, Instr.field, run_underlying hu, Result.andThen_ok, hfl]
              rw [hag]
              simp only [asAgg, Sem.run_pure, Result.andThen_ok, hp]
            · simp at h
          · simp at h
        · simp at h
      · simp at h
    · simp at h
  · -- index
    rename_i s x i hop
    split at h
    · rename_i a b ha hb
      refine .inl ?_
      unfold indexV at h
      split at h
      · rename_i k n len e hu
        split at h
        · rename_i tk ti htk hti hsc
          split at h
          · rename_i g u hrd
            simp only [Option.some.injEq, Prod.mk.injEq, Bool.and_eq_true, decide_eq_true_eq] at h
            obtain ⟨⟨h1, rfl⟩, rfl⟩ := h
            have e2 := E hb
            simp only [V.den] at e2
            have hag := not_scalar_cells (μ := μ) hsc hrd
            have hp := run_part (μ := μ) htk hrd w
            simp only [execOp, hop, E ha, e2, Sem.run_bind, Instr.index, asIntOf, run_underlying hu, Result.andThen_ok, Sem.run_pure]
            rw [hag]
            simp only [h1, and_self, if_true, Sem.run_bind, run_size hti, Result.andThen_ok, hp]
          · simp at h
        · simp at h
      · simp at h
    · simp at h
  · -- extract
    rename_i x i hop
    split at h
    · rename_i l hl
      split at h
      · rename_i u hu
        simp only [Option.some.injEq, Prod.mk.injEq, true_and] at h; subst h
        refine .inl ?_
        have := E hl
        simp only [V.den] at this
        simp only [execOp, hop, this, Sem.run_bind, Instr.extract, tup_get hu, Sem.run_pure, Result.andThen_ok]
      · simp at h
    · simp at h
  · -- slice
    rename_i ty x lo hi mx hop
    split at h
    · rename_i xv l2 h2 hx hl hh
      refine .inl ?_
      have e1 := E hx
      have hO : ∀ {q : Option Operand} {u : Option V}, evO t q = some u → q.map (act μ t).eval = u.map (V.den μ) := by
        intro q u hq
        unfold evO at hq
        split at hq
        · simp only [Option.some.injEq] at hq; subst hq; rfl
        · split at hq
          · rename_i v hv
            simp only [Option.some.injEq] at hq; subst hq
            simp [E hv]
          · simp at hq
      have hrun := run_sliceV (μ := μ) h w
      simp only [execOp, hop, e1, hO hl, hO hh, Option.map_none, Sem.run_bind, hrun, Result.andThen_ok, Sem.run_pure]
    · simp at h
  · -- call
    rename_i c hop
    split at h
    · rename_i f hc
      split at h
      · rename_i vs hvs
        obtain ⟨hst, hp⟩ := hF.1 f vs m v h
        rcases hp μ B w0 w hB hr with hp | ⟨hp1, hp2⟩
        · exact .inl (by rw [exec_call hop hc hvs]; exact hp)
        · exact .inr ⟨f, _, hst, by rw [exec_call hop hc hvs]; exact hp1, hp2⟩
      · simp at h
    · rename_i hc
      split at h
      · rename_i ty x hty hx
        split at h
        · rename_i e id off n cap hu hex
          simp only [Option.some.injEq, Prod.mk.injEq, true_and] at h; subst h
          refine .inl ?_
          have e1 := E hex
          simp only [V.den] at e1
          have ha : c.args.map (act μ t).eval = #[.slice (some ⟨(μ id).1, (μ id).2 + off, none⟩) n cap] := by
            rw [← Array.toList_inj, Array.toList_map, hx]; simp [e1]
          simp [execOp, hop, resolve, hc, ha, invoke, builtin, Builtin.len_, hty, run_underlying hu, goInt, V.den]
        · rename_i e hu hex
          simp only [Option.some.injEq, Prod.mk.injEq, true_and] at h; subst h
          refine .inl ?_
          have e1 := E hex
          simp only [V.den] at e1
          have ha : c.args.map (act μ t).eval = #[.slice none 0 0] := by
            rw [← Array.toList_inj, Array.toList_map, hx]; simp [e1]
          simp [execOp, hop, resolve, hc, ha, invoke, builtin, Builtin.len_, hty, run_underlying hu, goInt, V.den]
        · rename_i e a n cap hu hex
          simp only [Option.some.injEq, Prod.mk.injEq, true_and] at h; subst h
          refine .inl ?_
          have e1 := E hex
          simp only [V.den] at e1
          have ha : c.args.map (act μ t).eval = #[.slice a n cap] := by
            rw [← Array.toList_inj, Array.toList_map, hx]; simp [e1]
          simp [execOp, hop, resolve, hc, ha, invoke, builtin, Builtin.len_, hty, run_underlying hu, goInt, V.den]
        · simp at h
      · simp at h
    · rename_i hc
      split at h
      · rename_i x y hx
        split at h
        · rename_i k a k' b hex hey
          simp only [Option.some.injEq, Prod.mk.injEq, true_and] at h; subst h
          refine .inl ?_
          have e1 := E hex; have e2 := E hey
          simp only [V.den] at e1 e2
          have ha : c.args.map (act μ t).eval = #[.int k a, .int k' b] := by
            rw [← Array.toList_inj, Array.toList_map, hx]; simp [e1, e2]
          have hm : maxI a b = if b > a then b else a := by unfold maxI; by_cases hb : b > a <;> simp [hb]
          simp [execOp, hop, resolve, hc, ha, invoke, builtin, Builtin.max_, Builtin.max2, V.den, hm]
        · simp at h
      · simp at h
    · simp at h
  · simp at h

end
end Go.Ev
