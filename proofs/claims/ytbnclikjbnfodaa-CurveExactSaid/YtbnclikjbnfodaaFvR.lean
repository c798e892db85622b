/-
  A function's body gone through by segments: at their ends blocks may be forgotten and named anew, and each rest is proved once. Conditions: none.
-/
import Derived.Test.YtbnclikjbnfodaaFvQ
namespace Go.Ev
open Go.RowKit Go.ChangeShapes Go.WideShapes Go.ChangeAt

/-- The first k + 1 statements; those behind them. -/
def takeC : Nat → Code → Code
  | 0, .seq a _ => a
  | k + 1, .seq a b => .seq a (takeC k b)
  | _, _ => .skip
def dropC : Nat → Code → Code
  | 0, .seq _ b => b
  | k + 1, .seq _ b => dropC k b
  | _, _ => .skip
def hasC : Nat → Code → Bool
  | 0, .seq _ _ => true
  | k + 1, .seq _ b => hasC k b
  | _, _ => false
/-- What is asked of code at an abstract state, whatever the world. -/
def Ok (P : Program) (n0 : Nat) (c : Code) (Q : Exit → St → Prop) (s : St) : Prop :=
  ∀ (C : Ctx) (μ : Mu) (a : Act) (w : World), Under C.B C.w0 → C.n0 = n0 → RelA C μ s a w → c.wp P (After2 C Q) a w
/-- The same of a loop's body: at most k rounds. -/
def OkR (P : Program) (n0 : Nat) (c : Code) (Q : Exit → St → Prop) (k : Nat) (s : St) : Prop :=
  ∀ (C : Ctx) (μ : Mu) (a : Act) (w : World), Under C.B C.w0 → C.n0 = n0 → RelA C μ s a w → Code.rounds P c (After2 C Q) k a w
/-- What a block, a loop holds. -/
def blkC : Code → Code
  | .block _ c => c
  | c => c
def lopC : Code → Code
  | .loop c => c
  | c => c
def thnC : Code → Code
  | .cond _ x _ => x
  | c => c
def elsC : Code → Code
  | .cond _ _ y => y
  | c => c
/-- The temporaries that are told. -/
def pick (lv : List Nat) (T : List V) : List V := lv.map fun j => T.getD j V.un
def look : List Nat → List V → Nat → Option V
  | j :: lv, v :: L, i => bif Nat.beq i j then some v else look lv L i
  | _, _, _ => none
/-- A row of temporaries of which some are told. -/
def ovr (n : Nat) (lv : List Nat) (L T : List V) : List V := (List.range n).map fun j => match look lv L j with | some v => v | none => T.getD j V.un
theorem look_pick {T : List V} {i : Nat} : ∀ {lv : List Nat} {v : V}, look lv (pick lv T) i = some v → v = T.getD i V.un
  | [], v, h => by simp [look, pick] at h
  | j :: lv, v, h => by
    simp only [pick, List.map_cons, look] at h
    by_cases e : i = j
    · rw [beqT.2 e] at h
      simp only [cond_true, Option.some.injEq] at h
      rw [← h, e]
    · rw [ff beqT e] at h
      exact look_pick (lv := lv) h
theorem ovr_eq {n : Nat} {lv : List Nat} {L T : List V} (hn : T.length = n) (hL : pick lv T = L) : ovr n lv L T = T := by
  subst hL
  unfold ovr
  apply List.ext_getElem (by simp [hn])
  intro i h1 h2
  simp only [List.getElem_map, List.getElem_range]
  have e : T.getD i V.un = T[i] := by simp [List.getD_eq_getElem?_getD, h2]
  split
  · rename_i v hv; rw [look_pick hv, e]
  · exact e
theorem pick_map {lv : List Nat} {T : List V} {f : V → V} (hf : f V.un = V.un) : pick lv (T.map f) = (pick lv T).map f := by
  unfold pick
  rw [List.map_map]
  apply List.map_congr_left
  intro j _
  simp only [Function.comp_def, List.getD_eq_getElem?_getD, List.getElem?_map]
  cases T[j]? <;> simp [hf]
/-- R at whatever state whose told temporaries and memory are these. -/
def At (n : Nat) (lv : List Nat) (R : St → Prop) (L m : List V) : Prop := ∀ T, T.length = n → pick lv T = L → R ⟨T, m⟩
/-- Blocks may be forgotten ahead of R. -/
def GcC (n0 : Nat) (R : St → Prop) : Prop := ∀ s, (∀ μ : Mu, ∃ s2, Gc n0 μ s s2 ∧ R s2) → R s
theorem at_gc {n0 : Nat} {R : St → Prop} (hR : GcC n0 R) {n : Nat} {lv : List Nat} {L L2 m m2 : List V} (h : At n lv R L2 m2) (ids : List Nat) (hm : gcMem ids m ids = some m2) (hn : nodupB ids = true) (h0 : idsOK n0 ids 0 = true)
    (hL : ∀ μ, L.map (V.keep ids μ) = L2) : At n lv R L m := by
  intro T hT hp
  refine hR _ fun μ => ⟨_, gc_of ids (s := ⟨T, m⟩) hm hn h0, h (T.map (V.keep ids μ)) (by simp [hT]) ?_⟩
  rw [pick_map (by rfl), hp, hL]
/-- What stands behind code that is gone on from by K. -/
def segQ (n : Nat) (lv : List Nat) (K : List V → List V → Prop) (Q : Exit → St → Prop) : Exit → St → Prop := fun e s => match e with
  | .normal => (match Nat.beq s.tmps.length n with | true => K (pick lv s.tmps) s.mem | false => False)
  | e => Q e s
def blkQ (id : Nat) (Q : Exit → St → Prop) : Exit → St → Prop := fun e s => match e with
  | .exit j => (match Nat.beq j id with | true => Q .normal s | false => Q (.exit j) s)
  | e => Q e s
abbrev OkL (P : Program) (n0 n : Nat) (lv : List Nat) (c : Code) (Q : Exit → St → Prop) : List V → List V → Prop := At n lv (Ok P n0 c Q)
abbrev OkH (P : Program) (n0 n : Nat) (lv : List Nat) (c : Code) (Q : Exit → St → Prop) (k : Nat) : List V → List V → Prop := At n lv (OkR P n0 c Q k)
theorem segQ_at {n : Nat} {lv : List Nat} {R : St → Prop} {Q : Exit → St → Prop} {s : St} (h : segQ n lv (At n lv R) Q .normal s) : R s := by
  simp only [segQ] at h
  split at h
  · rename_i hb; exact h s.tmps (beqT.1 hb) rfl
  · exact h.elim
theorem ok_gc (P : Program) (n0 : Nat) (c : Code) (Q : Exit → St → Prop) : GcC n0 (Ok P n0 c Q) := fun s h C μ a w hB hC hr => by
  obtain ⟨s2, hg, h2⟩ := h μ
  obtain ⟨μ2, hr2⟩ := gc_rel hr (by rw [hC]; exact hg)
  exact h2 C μ2 a w hB hC hr2
theorem okR_gc (P : Program) (n0 : Nat) (c : Code) (Q : Exit → St → Prop) (k : Nat) : GcC n0 (OkR P n0 c Q k) := fun s h C μ a w hB hC hr => by
  obtain ⟨s2, hg, h2⟩ := h μ
  obtain ⟨μ2, hr2⟩ := gc_rel hr (by rw [hC]; exact hg)
  exact h2 C μ2 a w hB hC hr2

section
variable {P : Program} {F : Orc} {G : GOrc}
theorem ok_awq (hM : P.follows .mixedOrders = true) (hF : OrcOK P F) (hG : GOrcOK P G) {n0 N : Nat} {c : Code} {Q : Exit → St → Prop} {s : St} (h : awq P F G n0 N c Q s) : Ok P n0 c Q s :=
  fun _ _ _ _ hB hC hr => awq_sound hM hF hG hB hC h hr
theorem ok_seg (hM : P.follows .mixedOrders = true) (hF : OrcOK P F) (hG : GOrcOK P G) {n0 N n : Nat} {lv : List Nat} {Q : Exit → St → Prop} : ∀ (k : Nat) {c : Code} {s : St}, hasC k c = true → awq P F G n0 N (takeC k c) (segQ n lv (OkL P n0 n lv (dropC k c) Q) Q) s → Ok P n0 c Q s
  | 0, .seq x y, s, _, h => fun C μ a w hB hC hr => by
    refine wp_seq ?_
    refine wp_mono (awq_sound hM hF hG hB hC h hr) fun e a' w' ⟨s', μ', h', hr'⟩ => ?_
    cases e with
    | normal => exact segQ_at h' C μ' a' w' hB hC hr'
    | _ => exact ⟨s', μ', h', hr'⟩
  | k + 1, .seq x y, s, hc, h => fun C μ a w hB hC hr => by
    simp only [takeC, awq] at h
    refine wp_seq ?_
    refine wp_mono (awq_sound hM hF hG hB hC h hr) fun e a' w' ⟨s', μ', h', hr'⟩ => ?_
    cases e with
    | normal => exact ok_seg hM hF hG k hc h' C μ' a' w' hB hC hr'
    | _ => exact ⟨s', μ', h', hr'⟩
section
variable {n0 N n : Nat} {lv : List Nat} {Q : Exit → St → Prop} {L m : List V} {c : Code}
/-- By segments: k + 1 statements, then the rest. -/
theorem okl_seg (hM : P.follows .mixedOrders = true) (hF : OrcOK P F) (hG : GOrcOK P G) (k : Nat) {d : Code} {lv' : List Nat} (hc : hasC k c = true) (hd : dropC k c = d)
    (h : ∀ T, awq P F G n0 N (takeC k c) (segQ n lv' (OkL P n0 n lv' d Q) Q) ⟨ovr n lv L T, m⟩) : OkL P n0 n lv c Q L m := by
  intro T hT hL
  subst hd
  have := h T
  rw [ovr_eq hT hL] at this
  exact ok_seg hM hF hG k hc this
theorem okl_all (hM : P.follows .mixedOrders = true) (hF : OrcOK P F) (hG : GOrcOK P G) (h : ∀ T, awq P F G n0 N c Q ⟨ovr n lv L T, m⟩) : OkL P n0 n lv c Q L m := by
  intro T hT hL
  have := h T
  rw [ovr_eq hT hL] at this
  exact ok_awq hM hF hG this
theorem okl_fst {a d : Code} {lv' : List Nat} (hc : hasC 0 c = true) (ha : takeC 0 c = a) (hd : dropC 0 c = d) (h : OkL P n0 n lv a (segQ n lv' (OkL P n0 n lv' d Q) Q) L m) : OkL P n0 n lv c Q L m := by
  intro T hT hL C μ a' w hB hC hr
  cases c <;> simp [hasC] at hc
  rename_i x y
  obtain rfl : x = a := ha
  obtain rfl : y = d := hd
  refine wp_seq (wp_mono (h T hT hL C μ a' w hB hC hr) fun e a' w' ⟨s', μ', h', hr'⟩ => ?_)
  cases e with
  | normal => exact segQ_at h' C μ' a' w' hB hC hr'
  | _ => exact ⟨s', μ', h', hr'⟩
theorem okl_blk {id : Nat} {d : Code} (hc : c = .block id d) (h : OkL P n0 n lv d (blkQ id Q) L m) : OkL P n0 n lv c Q L m := by
  subst hc
  intro T hT hL C μ a' w hB hC hr
  refine wp_block (wp_mono (h T hT hL C μ a' w hB hC hr) fun e a' w' ⟨s', μ', h', hr'⟩ => ?_)
  cases e with
  | exit j =>
    simp only [Exit.inBlock]
    simp only [blkQ] at h'
    by_cases hj : j = id
    · rw [if_pos hj]
      simp only [beqT.2 hj] at h'
      exact ⟨s', μ', h', hr'⟩
    · rw [if_neg hj]
      simp only [ff beqT hj] at h'
      exact ⟨s', μ', h', hr'⟩
  | _ => exact ⟨s', μ', h', hr'⟩
theorem okl_cond {x y : Code} {j : Nat} {b : Bool} (hc : c = .cond (.tmp j) x y) (hj : look lv L j = some (.bool b)) (h : OkL P n0 n lv (bif b then x else y) Q L m) : OkL P n0 n lv c Q L m := by
  subst hc
  intro T hT hL C μ a' w hB hC hr
  have he : ev T (.tmp j) = some (.bool b) := by
    subst hL
    simp only [ev]
    rw [← look_pick hj]
  have hc : a'.eval (.tmp j) = .bool b := by
    have := ev_den (μ := μ) (d := []) he
    rw [(hr.all μ (Agree.refl _ _)).2]; exact this
  refine wp_cond (t := b) hc ?_
  have := h T hT hL C μ a' w hB hC hr
  cases b <;> exact this
theorem okl_loop {d : Code} (k : Nat) (hc : c = .loop d) (h : OkH P n0 n lv d Q k L m) : OkL P n0 n lv c Q L m := by
  subst hc
  intro T hT hL C μ a' w hB hC hr
  exact wp_loop_rounds k (h T hT hL C μ a' w hB hC hr)
theorem okh_round {k : Nat} (h : OkL P n0 n lv c (segQ n lv (OkH P n0 n lv c Q k) Q) L m) : OkH P n0 n lv c Q (k + 1) L m := by
  intro T hT hL C μ a' w hB hC hr
  rw [rounds_succ]
  refine wp_mono (h T hT hL C μ a' w hB hC hr) fun e a' w' ⟨s', μ', h', hr'⟩ => ?_
  cases e with
  | normal => exact segQ_at h' C μ' a' w' hB hC hr'
  | _ => exact ⟨s', μ', h', hr'⟩
end
/-- The call, by segments. -/
theorem calls_of_ok {f : FuncId} {fn : Func} {c : Code} (hf : P.funcs[f]? = some fn) (hb : fn.body = some c)
    {args : List V} {m : List V} {K : V → List V → Prop} {C : Ctx} {μ : Mu} {w : World} {vals : Array Value} (hB : Under C.B C.w0) {n0 : Nat} (hC : C.n0 = n0) (hm : RelM C μ m w) (hv : ∀ μ', Agree m.length μ μ' → vals = (args.map (V.den μ')).toArray)
    (h : Ok P n0 c (ends P fn K) ⟨args ++ List.replicate (fn.ntmps - args.length) V.un, m⟩) :
    Calls P f vals w fun e w' => ∃ v m' μ1 val, K v m' ∧ e = .returned val ∧ RelM C μ1 m' w' ∧ ∀ μ', Agree m'.length μ1 μ' → val = v.den μ' := by
  refine calls_of_wp hf hb ?_
  have hr : RelA C μ ⟨args ++ List.replicate (fn.ntmps - args.length) V.un, m⟩ { tmps := vals ++ Array.replicate (fn.ntmps - vals.size) undef, defers := [] } w := by
    refine ⟨fun μ' hμ => ⟨hm.all μ' hμ, ?_⟩, hm.ext, hm.len⟩
    have := hv μ' hμ
    subst this
    simp only [act, List.map_append, List.map_replicate, V.un, V.den, V.dens, Act.mk.injEq, and_true]
    rw [← Array.toList_inj]
    simp [undef]
  refine wp_mono (h C μ _ w hB hC hr) fun e a' w' ⟨s', μ', h', hr'⟩ => ?_
  have hend : (match resMany P s' fn.results.toList with | some (g, vs) => gd g (K (pack vs) s'.mem) | none => False) →
      a'.defers = [] ∧ ∃ v, (results fn a'.tmps).run P w' = .ok v w' ∧ ∃ v1 m' μ1 val, K v1 m' ∧ Ending.returned v = .returned val ∧ RelM C μ1 m' w' ∧ ∀ μ', Agree m'.length μ1 μ' → val = v1.den μ' := by
    intro h'
    split at h'
    · rename_i g vs hres
      obtain ⟨hg, h'⟩ := gd_true h'
      subst hg
      refine ⟨by rw [(hr'.all μ' (Agree.refl _ _)).2]; rfl, _, run_results hr' hres, _, _, μ', _, h', rfl, ⟨fun μ2 h2 => (hr'.all μ2 h2).1, hr'.ext, hr'.len⟩, fun μ2 h2 => ?_⟩
      have hr2 : RelA C μ2 s' a' w' := ⟨fun μ3 h3 => hr'.all μ3 (h2.trans h3), hr'.ext.trans (h2.mono hr'.len), hr'.len⟩
      have e1 := run_results hr' hres
      have e2 := run_results hr2 hres
      rw [e1] at e2
      simpa using e2
    · exact h'.elim
  cases e <;> simp only [ends] at h' <;> first | exact hend h' | exact h'.elim
/-- A law's call, by segments. -/
theorem law_callsK {f : FuncId} {fn : Func} (hf : P.funcs[f]? = some fn) (hb : fn.body.isSome = true) {ws : List (Nat × Nat × V)} {args : List V} {W : World}
    (hl : ∀ b o u, (b, o, u) ∈ ws → Seen W b o u) {vals : Array Value} (ha : ∀ μ', Agree (memW ws).length (muW ws) μ' → vals = (args.map (V.den μ')).toArray) {n : Nat}
    {lv : List Nat} (h : OkL P ws.length fn.ntmps lv (body fn) (ends P fn fun v _ => okV (V.bool true) v) (pick lv args) (memW ws)) (hn : n = fn.ntmps - args.length) (hlen : args.length ≤ fn.ntmps) (hlv : lv.all (fun j => Nat.blt j args.length) = true) :
    Calls P f vals W fun e W' => e = .returned (.bool true) ∧ Below W.heap.size W W' := by
  obtain ⟨c, hc⟩ := Option.isSome_iff_exists.1 hb
  have hbody : body fn = c := by simp [body, hc]
  rw [hbody] at h
  subst hn
  have h := h (args ++ List.replicate (fn.ntmps - args.length) V.un) (by simp; omega) (by
    unfold pick
    apply List.map_congr_left
    intro j hj
    have hj := bltT.1 (List.all_eq_true.1 hlv j hj)
    simp only [List.getD_eq_getElem?_getD, List.getElem?_append_left hj])
  refine (calls_of_ok (C := ⟨lowB W.heap.size, W, ws.length, muW ws⟩) hf hc (under_low (Nat.le_refl _)) rfl (rel_windows hl) ha h).mono fun e w' ⟨v, m', μ1, val, hK, he, hrm, hval⟩ => ?_
  have e1 := hval μ1 (Agree.refl _ _)
  unfold okV at hK
  split at hK
  · rename_i hfl
    rw [flat_den hfl z0 μ1, hK] at e1
    subst e1
    exact ⟨he, (hrm.all μ1 (Agree.refl _ _)).below.below⟩
  · exact hK.elim
end
end Go.Ev
