/-
  What is asked of code at an abstract state in worlds that are as X says; a window opened on a slice of others' memory. Conditions: none.
-/
import Derived.Test.YtbnclikjbnfodaaFvT
namespace Go.Ev
open Go.RowKit Go.ChangeShapes Go.WideShapes Go.ChangeAt

def OkX (X : Ctx → Prop) (P : Program) (n0 : Nat) (c : Code) (Q : Exit → St → Prop) (s : St) : Prop :=
  ∀ (C : Ctx) (μ : Mu) (a : Act) (w : World), X C → Under C.B C.w0 → C.n0 = n0 → RelA C μ s a w → c.wp P (After2 C Q) a w
def OkRX (X : Ctx → Prop) (P : Program) (n0 : Nat) (c : Code) (Q : Exit → St → Prop) (k : Nat) (s : St) : Prop :=
  ∀ (C : Ctx) (μ : Mu) (a : Act) (w : World), X C → Under C.B C.w0 → C.n0 = n0 → RelA C μ s a w → Code.rounds P c (After2 C Q) k a w
abbrev OkLX (X : Ctx → Prop) (P : Program) (n0 n : Nat) (lv : List Nat) (c : Code) (Q : Exit → St → Prop) : List V → List V → Prop := At n lv (OkX X P n0 c Q)
abbrev OkHX (X : Ctx → Prop) (P : Program) (n0 n : Nat) (lv : List Nat) (c : Code) (Q : Exit → St → Prop) (k : Nat) : List V → List V → Prop := At n lv (OkRX X P n0 c Q k)
section
variable {X : Ctx → Prop}
theorem okx_gc (P : Program) (n0 : Nat) (c : Code) (Q : Exit → St → Prop) : GcC n0 (OkX X P n0 c Q) := fun s h C μ a w hx hB hC hr => by
  obtain ⟨s2, hg, h2⟩ := h μ
  obtain ⟨μ2, hr2⟩ := gc_rel hr (by rw [hC]; exact hg)
  exact h2 C μ2 a w hx hB hC hr2
theorem okRx_gc (P : Program) (n0 : Nat) (c : Code) (Q : Exit → St → Prop) (k : Nat) : GcC n0 (OkRX X P n0 c Q k) := fun s h C μ a w hx hB hC hr => by
  obtain ⟨s2, hg, h2⟩ := h μ
  obtain ⟨μ2, hr2⟩ := gc_rel hr (by rw [hC]; exact hg)
  exact h2 C μ2 a w hx hB hC hr2

section
variable {P : Program} {F : Orc} {G : GOrc}
theorem okx_awq (hM : P.follows .mixedOrders = true) (hF : OrcOK P F) (hG : GOrcOK P G) {n0 N : Nat} {c : Code} {Q : Exit → St → Prop} {s : St} (h : awq P F G n0 N c Q s) : OkX X P n0 c Q s :=
  fun _ _ _ _ _ hB hC hr => awq_sound hM hF hG hB hC h hr
theorem okx_seg (hM : P.follows .mixedOrders = true) (hF : OrcOK P F) (hG : GOrcOK P G) {n0 N n : Nat} {lv : List Nat} {Q : Exit → St → Prop} : ∀ (k : Nat) {c : Code} {s : St}, hasC k c = true → awq P F G n0 N (takeC k c) (segQ n lv (OkLX X P n0 n lv (dropC k c) Q) Q) s → OkX X P n0 c Q s
  | 0, .seq x y, s, _, h => fun C μ a w hx hB hC hr => by
    refine wp_seq ?_
    refine wp_mono (awq_sound hM hF hG hB hC h hr) fun e a' w' ⟨s', μ', h', hr'⟩ => ?_
    cases e with
    | normal => exact segQ_at h' C μ' a' w' hx hB hC hr'
    | _ => exact ⟨s', μ', h', hr'⟩
  | k + 1, .seq x y, s, hc, h => fun C μ a w hx hB hC hr => by
    simp only [takeC, awq] at h
    refine wp_seq ?_
    refine wp_mono (awq_sound hM hF hG hB hC h hr) fun e a' w' ⟨s', μ', h', hr'⟩ => ?_
    cases e with
    | normal => exact okx_seg hM hF hG k hc h' C μ' a' w' hx hB hC hr'
    | _ => exact ⟨s', μ', h', hr'⟩
section
variable {n0 N n : Nat} {lv : List Nat} {Q : Exit → St → Prop} {L m : List V} {c : Code}
/-- By segments: k + 1 statements, then the rest. -/
theorem oklx_seg (hM : P.follows .mixedOrders = true) (hF : OrcOK P F) (hG : GOrcOK P G) (k : Nat) {d : Code} {lv' : List Nat} (hc : hasC k c = true) (hd : dropC k c = d)
    (h : ∀ T, awq P F G n0 N (takeC k c) (segQ n lv' (OkLX X P n0 n lv' d Q) Q) ⟨ovr n lv L T, m⟩) : OkLX X P n0 n lv c Q L m := by
  intro T hT hL
  subst hd
  have := h T
  rw [ovr_eq hT hL] at this
  exact okx_seg hM hF hG k hc this
theorem oklx_all (hM : P.follows .mixedOrders = true) (hF : OrcOK P F) (hG : GOrcOK P G) (h : ∀ T, awq P F G n0 N c Q ⟨ovr n lv L T, m⟩) : OkLX X P n0 n lv c Q L m := by
  intro T hT hL
  have := h T
  rw [ovr_eq hT hL] at this
  exact okx_awq hM hF hG this
theorem oklx_fst {a d : Code} {lv' : List Nat} (hc : hasC 0 c = true) (ha : takeC 0 c = a) (hd : dropC 0 c = d) (h : OkLX X P n0 n lv a (segQ n lv' (OkLX X P n0 n lv' d Q) Q) L m) : OkLX X P n0 n lv c Q L m := by
  intro T hT hL C μ a' w hx hB hC hr
  cases c <;> simp [hasC] at hc
  rename_i x y
  obtain rfl : x = a := ha
  obtain rfl : y = d := hd
  refine wp_seq (wp_mono (h T hT hL C μ a' w hx hB hC hr) fun e a' w' ⟨s', μ', h', hr'⟩ => ?_)
  cases e with
  | normal => exact segQ_at h' C μ' a' w' hx hB hC hr'
  | _ => exact ⟨s', μ', h', hr'⟩
theorem oklx_blk {id : Nat} {d : Code} (hc : c = .block id d) (h : OkLX X P n0 n lv d (blkQ id Q) L m) : OkLX X P n0 n lv c Q L m := by
  subst hc
  intro T hT hL C μ a' w hx hB hC hr
  refine wp_block (wp_mono (h T hT hL C μ a' w hx hB hC hr) fun e a' w' ⟨s', μ', h', hr'⟩ => ?_)
  cases e with
  | exit j =>
    simp only [Exit.inBlock]
    simp only [blkQ] at h'
    by_cases hj : j = id
    · rw [if_pos hj]
      simp only [beqT.2 hj] at h'
      exact ⟨s', μ', h', hr'⟩
    · rw [if_neg hj]
      simp only [ff beqT hj] at h'
      exact ⟨s', μ', h', hr'⟩
  | _ => exact ⟨s', μ', h', hr'⟩
theorem oklx_cond {x y : Code} {j : Nat} {b : Bool} (hc : c = .cond (.tmp j) x y) (hj : look lv L j = some (.bool b)) (h : OkLX X P n0 n lv (bif b then x else y) Q L m) : OkLX X P n0 n lv c Q L m := by
  subst hc
  intro T hT hL C μ a' w hx hB hC hr
  have he : ev T (.tmp j) = some (.bool b) := by
    subst hL
    simp only [ev]
    rw [← look_pick hj]
  have hc : a'.eval (.tmp j) = .bool b := by
    have := ev_den (μ := μ) (d := []) he
    rw [(hr.all μ (Agree.refl _ _)).2]; exact this
  refine wp_cond (t := b) hc ?_
  have := h T hT hL C μ a' w hx hB hC hr
  cases b <;> exact this
theorem oklx_loop {d : Code} (k : Nat) (hc : c = .loop d) (h : OkHX X P n0 n lv d Q k L m) : OkLX X P n0 n lv c Q L m := by
  subst hc
  intro T hT hL C μ a' w hx hB hC hr
  exact wp_loop_rounds k (h T hT hL C μ a' w hx hB hC hr)
theorem okhx_round {k : Nat} (h : OkLX X P n0 n lv c (segQ n lv (OkHX X P n0 n lv c Q k) Q) L m) : OkHX X P n0 n lv c Q (k + 1) L m := by
  intro T hT hL C μ a' w hx hB hC hr
  rw [rounds_succ]
  refine wp_mono (h T hT hL C μ a' w hx hB hC hr) fun e a' w' ⟨s', μ', h', hr'⟩ => ?_
  cases e with
  | normal => exact segQ_at h' C μ' a' w' hx hB hC hr'
  | _ => exact ⟨s', μ', h', hr'⟩
end
/-- Ok of any world is Ok of these. -/
theorem okx_of {P : Program} {n0 n : Nat} {lv : List Nat} {c : Code} {Q : Exit → St → Prop} {L m : List V} (h : OkL P n0 n lv c Q L m) : OkLX X P n0 n lv c Q L m :=
  fun T hT hL C μ a w _ hB hC hr => h T hT hL C μ a w hB hC hr
theorem look_dens {μ : Mu} {i : Nat} : ∀ {lv : List Nat} {L L2 : List V}, L2.map (V.den μ) = L.map (V.den μ) → (look lv L2 i).map (V.den μ) = (look lv L i).map (V.den μ)
  | [], L, L2, _ => rfl
  | _ :: _, [], [], _ => rfl
  | j :: lv, v :: L, v2 :: L2, h => by
    simp only [List.map_cons, List.cons.injEq] at h
    simp only [look]
    cases Nat.beq i j with
    | true => simp [h.1]
    | false => exact look_dens h.2
  | _ :: _, [], _ :: _, h => by simp at h
  | _ :: _, _ :: _, [], h => by simp at h
theorem okx_win {P : Program} {n0 n : Nat} {lv : List Nat} {c : Code} {Q : Exit → St → Prop} {L L2 m : List V} {W : World} {b o : Nat} {u z : V} (hX : ∀ C, X C → C.w0 = W ∧ C.B = lowB W.heap.size) (hS : Seen W b o u) (hro : roOf z = some u) (htag : ∀ g, tagOf z = some g → g = (b, o))
    (hp : ∀ T, pick lv (ovr n lv L2 T) = L2) (hL : ∀ μ : Mu, μ m.length = (b, o) → L2.map (V.den μ) = L.map (V.den μ)) (h : OkLX X P n0 n lv c Q L2 (m ++ [z])) : OkLX X P n0 n lv c Q L m := by
  intro T hT hl C μ a w hx hB hC hr
  obtain ⟨e1, e2⟩ := hX C hx
  obtain ⟨hf, _, _, hb, hcells⟩ := hS
  refine h (ovr n lv L2 T) (by simp [ovr]) (hp T) C (fun i => if i = m.length then (b, o) else μ i) a w hx hB hC ⟨fun μ' hμ => ?_, fun i hi => ?_, ?_⟩
  · simp only [List.length_append, List.length_cons, List.length_nil] at hμ
    have hm : μ' m.length = (b, o) := by rw [hμ m.length (by omega)]; simp
    have hag : Agree m.length μ μ' := fun i hi => by rw [hμ i (by omega)]; simp [Nat.ne_of_lt hi]
    obtain ⟨hrel, hact⟩ := hr.all μ' hag
    refine ⟨⟨hrel.below, fun id v hv => ?_, fun i j hi hj hnb he => ?_⟩, ?_⟩
    · by_cases hid : id < m.length
      · rw [List.getElem?_append_left hid] at hv
        exact hrel.hold id v hv
      · have hid2 := (List.getElem?_eq_some_iff.1 hv).1
        simp only [List.length_append, List.length_cons, List.length_nil] at hid2
        obtain rfl : id = m.length := by omega
        rw [List.getElem?_append_right (Nat.le_refl _), Nat.sub_self] at hv
        simp only [List.getElem?_cons_zero, Option.some.injEq] at hv
        subst hv
        unfold Held
        rw [hro]
        show C.B (μ' m.length).1 ∧ (μ' m.length).1 < w.heap.size ∧ _
        rw [hm]
        have hBb : C.B b := by rw [e2]; exact hb
        have hk := hrel.below.block b hBb
        rw [e1] at hk
        refine ⟨hBb, ?_, fun g hg => (htag g hg).symm, fun j c hc => ?_⟩
        · have := hrel.below.size
          rw [e1] at this
          exact Nat.lt_of_lt_of_le hb this
        · rw [flat_den hf z0 μ'] at hc
          have h4 := hcells j c hc
          simp only [World.cell?] at h4 ⊢
          rw [hk]; exact h4
    · simp only [List.length_append, List.length_cons, List.length_nil] at hi hj
      by_cases hi2 : i < m.length
      · by_cases hj2 : j < m.length
        · exact hrel.inj i j hi2 hj2 hnb he
        · obtain rfl : j = m.length := by omega
          rw [hm] at he
          exact absurd (by rw [he, e2]; exact hb) hnb
      · obtain rfl : i = m.length := by omega
        rw [hm] at hnb
        exact absurd (by rw [e2]; exact hb) hnb
    · rw [hact]
      have hd : (ovr n lv L2 T).map (V.den μ') = T.map (V.den μ') := by
        apply List.ext_getElem (by simp [ovr, hT])
        intro i h1 h2
        simp only [List.length_map, ovr, List.length_range] at h1
        simp only [ovr, List.getElem_map, List.getElem_range]
        have hk := look_dens (i := i) (lv := lv) (hL μ' hm)
        have hTi : i < T.length := by omega
        have e : T.getD i V.un = T[i] := by simp [List.getD_eq_getElem?_getD, hTi]
        split
        · rename_i v hv
          rw [hv] at hk
          simp only [Option.map_some] at hk
          cases hv2 : look lv L i with
          | none => rw [hv2] at hk; cases hk
          | some v2 =>
            rw [hv2] at hk
            simp only [Option.map_some, Option.some.injEq] at hk
            rw [hk, ← e]
            subst hl
            rw [look_pick hv2]
        · rw [e]
      simp only [act, hd]
  · have hlen : C.n0 ≤ m.length := hr.len
    rw [show (if i = m.length then (b, o) else μ i) = μ i from if_neg (by omega)]
    exact hr.ext i hi
  · have hlen : C.n0 ≤ m.length := hr.len
    simp only [List.length_append, List.length_cons, List.length_nil]; omega
/-- A window on a slice of others' memory, opened. -/
theorem okx_open {P : Program} {n0 n : Nat} {lv : List Nat} {c : Code} {Q : Exit → St → Prop} {L L2 m : List V} {W : World} {b o : Nat} {u : V} (hX : ∀ C, X C → C.w0 = W ∧ C.B = lowB W.heap.size) (hS : Seen W b o u)
    (hp : ∀ T, pick lv (ovr n lv L2 T) = L2) (hL : ∀ μ : Mu, μ m.length = (b, o) → L2.map (V.den μ) = L.map (V.den μ)) (h : OkLX X P n0 n lv c Q L2 (m ++ [.tup [u]])) : OkLX X P n0 n lv c Q L m :=
  okx_win hX hS hS.2.1 (fun g hg => by rw [hS.2.2.1] at hg; cases hg) hp hL h
/-- The same, pinned: it is told where it begins. -/
theorem okx_pin {P : Program} {n0 n : Nat} {lv : List Nat} {c : Code} {Q : Exit → St → Prop} {L m : List V} {W : World} {b o : Nat} {u : V} (hX : ∀ C, X C → C.w0 = W ∧ C.B = lowB W.heap.size) (hS : Seen W b o u)
    (hp : ∀ T, pick lv (ovr n lv L T) = L) (h : OkLX X P n0 n lv c Q L (m ++ [.tup [.wild (some ⟨b, o, none⟩), u]])) : OkLX X P n0 n lv c Q L m :=
  okx_win hX hS rfl (fun g hg => by simp only [tagOf, Option.some.injEq] at hg; exact hg.symm) hp (fun _ _ => rfl) h
/-- A call handed a slice of others' memory: as if it were a window's. -/
theorem callsG_pin {P : Program} {f : FuncId} {vs vs' m : List V} {K : V → List V → Prop} {id b o : Nat} {u : V} (hm : m[id]? = some (.tup [.wild (some ⟨b, o, none⟩), u])) (hv : ∀ μ : Mu, μ id = (b, o) → vs'.map (V.den μ) = vs.map (V.den μ)) (h : CallsG P f vs' m K) : CallsG P f vs m K := by
  intro C μ w hB hr
  have hh := (hr.all μ (Agree.refl _ _)).hold id _ hm
  unfold Held at hh
  have e := hh.2.2.1 (b, o) rfl
  have := h C μ w hB hr
  rw [hv μ e] at this
  exact this
/-- A law's call, by segments, whose windows are opened as it goes. -/
theorem law_callsX {P : Program} {f : FuncId} {fn : Func} (hf : P.funcs[f]? = some fn) (hb : fn.body.isSome = true) {ws : List (Nat × Nat × V)} {args : List V} {W : World}
    (hl : ∀ b o u, (b, o, u) ∈ ws → Seen W b o u) {vals : Array Value} (ha : ∀ μ', Agree (memW ws).length (muW ws) μ' → vals = (args.map (V.den μ')).toArray) {n : Nat}
    {lv : List Nat} (h : OkLX (fun C => C.w0 = W ∧ C.B = lowB W.heap.size) P ws.length fn.ntmps lv (body fn) (ends P fn fun v _ => okV (V.bool true) v) (pick lv args) (memW ws)) (hn : n = fn.ntmps - args.length) (hlen : args.length ≤ fn.ntmps) (hlv : lv.all (fun j => Nat.blt j args.length) = true) :
    Calls P f vals W fun e W' => e = .returned (.bool true) ∧ Below W.heap.size W W' := by
  obtain ⟨c, hc⟩ := Option.isSome_iff_exists.1 hb
  have hbody : body fn = c := by simp [body, hc]
  rw [hbody] at h
  subst hn
  have h := h (args ++ List.replicate (fn.ntmps - args.length) V.un) (by simp; omega) (by
    unfold pick
    apply List.map_congr_left
    intro j hj
    have hj := bltT.1 (List.all_eq_true.1 hlv j hj)
    simp only [List.getD_eq_getElem?_getD, List.getElem?_append_left hj])
  refine calls_of_wp hf hc ?_
  have hm := rel_windows hl
  have hr : RelA ⟨lowB W.heap.size, W, ws.length, muW ws⟩ (muW ws) ⟨args ++ List.replicate (fn.ntmps - args.length) V.un, memW ws⟩ { tmps := vals ++ Array.replicate (fn.ntmps - vals.size) undef, defers := [] } W := by
    refine ⟨fun μ' hμ => ⟨hm.all μ' hμ, ?_⟩, hm.ext, hm.len⟩
    have := ha μ' hμ
    subst this
    simp only [act, List.map_append, List.map_replicate, V.un, V.den, V.dens, Act.mk.injEq, and_true]
    rw [← Array.toList_inj]
    simp [undef]
  refine wp_mono (h ⟨lowB W.heap.size, W, ws.length, muW ws⟩ (muW ws) _ W ⟨rfl, rfl⟩ (under_low (Nat.le_refl _)) rfl hr) fun e a' w' ⟨s', μ', h', hr'⟩ => ?_
  have hend : (match resMany P s' fn.results.toList with | some (g, vs) => gd g (okV (V.bool true) (pack vs)) | none => False) →
      a'.defers = [] ∧ ∃ v, (results fn a'.tmps).run P w' = .ok v w' ∧ (Ending.returned v = .returned (.bool true) ∧ Below W.heap.size W w') := by
    intro h'
    split at h'
    · rename_i g vs hres
      obtain ⟨hg, h'⟩ := gd_true h'
      subst hg
      refine ⟨by rw [(hr'.all μ' (Agree.refl _ _)).2]; rfl, _, run_results hr' hres, ?_, (hr'.all μ' (Agree.refl _ _)).1.below.below⟩
      unfold okV at h'
      split at h'
      · rename_i hfl
        rw [flat_den hfl z0 μ', h']
        rfl
      · exact h'.elim
    · exact h'.elim
  cases e <;> simp only [ends] at h' <;> first | exact hend h' | exact h'.elim
end
end
end Go.Ev
