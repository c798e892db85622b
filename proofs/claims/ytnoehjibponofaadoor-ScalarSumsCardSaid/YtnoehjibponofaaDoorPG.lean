/-
  times, reduce: a number folded at 2^252 four times. Conditions: none.
-/
import Derived.Test.YtnoehjibponofaaDoorPF
namespace Go.Proofs.YtnoehjibponofaaDoor
open Go.Ev
theorem hide_ex {α : Type} (a : α) : ∃ f : α, f = a := ⟨a, rfl⟩
/- The same by names that are not unfolded. -/
noncomputable def u4O : (Nat → Int) → Bool := Classical.choose (hide_ex u4)
theorem u4O_eq : u4O = u4 := Classical.choose_spec (hide_ex u4)
noncomputable def plusO : (Nat → Int) → (Nat → Int) → Nat → Int := Classical.choose (hide_ex plusF)
theorem plusO_eq : plusO = plusF := Classical.choose_spec (hide_ex plusF)
noncomputable def minusO : (Nat → Int) → (Nat → Int) → Nat → Int := Classical.choose (hide_ex minusF)
theorem minusO_eq : minusO = minusF := Classical.choose_spec (hide_ex minusF)
noncomputable def pcO : (Nat → Int) → (Nat → Int) → Int := Classical.choose (hide_ex fun x y => pc x y 4)
theorem pcO_eq : pcO = fun x y => pc x y 4 := Classical.choose_spec (hide_ex fun x y => pc x y 4)
noncomputable def bcO : (Nat → Int) → (Nat → Int) → Int := Classical.choose (hide_ex fun x y => bc x y 4)
theorem bcO_eq : bcO = fun x y => bc x y 4 := Classical.choose_spec (hide_ex fun x y => bc x y 4)
noncomputable def belO : (Nat → Int) → (Nat → Int) → Nat → Int := Classical.choose (hide_ex fun o x => belowR o 16 x)
theorem belO_eq : belO = fun o x => belowR o 16 x := Classical.choose_spec (hide_ex fun o x => belowR o 16 x)
noncomputable def g50O : List V → Option (Bool × V) := fun | [.ints .u64 4 x, .ints .u64 4 y] => some (u4O x && u4O y, .tup [.ints .u64 4 (plusO x y), .int .u64 (pcO x y)]) | _ => none
theorem g50O_eq : g50O = g50 := by
  funext vs
  unfold g50O g50
  simp only [u4O_eq, plusO_eq, pcO_eq]
  kernel_rfl
noncomputable def g43O : List V → Option (Bool × V) := fun | [.ints .u64 4 x, .ints .u64 4 y] => some (true, .tup [.ints .u64 4 (minusO x y), .int .u64 (bcO x y)]) | _ => none
theorem g43O_eq : g43O = g43 := by
  funext vs
  unfold g43O g43
  simp only [minusO_eq, bcO_eq]
  kernel_rfl
noncomputable def g52O : List V → List V → Option (Bool × V) := fun vs m => match views [2] vs m with
  | some ([.ints .u64 4 x], [.tup [.fn 2, .ints .u64 4 o]]) => some (u4O x && eqN 4 o ordF, .ints .u64 4 (belO o x))
  | _ => none
theorem g52O_eq : g52O = g52 := by
  funext vs m
  unfold g52O g52
  simp only [u4O_eq, belO_eq]
  kernel_rfl
noncomputable def q50 : Orc := ext 50 g50O p62
theorem q50_ok : OrcOK Tryd.prog q50 := by unfold q50; rw [g50O_eq]; exact ext_ok p62_ok g50_ok
noncomputable def q43 : Orc := ext 43 g43O q50
theorem q43_ok : OrcOK Tryd.prog q43 := by unfold q43; rw [g43O_eq]; exact ext_ok q50_ok g43_ok
noncomputable def q52 : Orc := extM 52 g52O q43
theorem q52_ok : OrcOK Tryd.prog q52 := by unfold q52; rw [g52O_eq]; exact extM_ok q43_ok g52_ok g52_grow
def tl (p : Int × Int) (o c : Int) : Int := aS (aS p.2 o 0) c 0
def th (p : Int × Int) (o c : Int) : Int := addI .u64 (addI .u64 p.1 (aC p.2 o 0)) (aC (aS p.2 o 0) c 0)
/-- A word times k words, added to what stands from word i on; the carry. -/
def tin (a : Int) (g : Nat → Int) (i : Nat) (hh : Nat → Int) : Nat → (Nat → Int) × Int
  | 0 => (hh, 0)
  | k + 1 => (up (i + k) (tl (mul64 a (g k)) ((tin a g i hh k).1 (i + k)) (tin a g i hh k).2) (tin a g i hh k).1, th (mul64 a (g k)) ((tin a g i hh k).1 (i + k)) (tin a g i hh k).2)
/-- The product of i words and n words. -/
def timesR (f g : Nat → Int) (n : Nat) : Nat → (Nat → Int)
  | 0 => fun _ => 0
  | i + 1 => up (i + n) (tin (f i) g i (timesR f g n i) n).2 (tin (f i) g i (timesR f g n i) n).1
/-- L less 2^252. -/
def restF : Nat → Int := up 1 1503914060200516822 (up 0 6346243789798364141 (fun _ => 0))
def Z0 : Nat → Int := fun _ => 0
noncomputable def fold (S : Nat → Int) (off n : Nat) (x : Nat → Int) : Nat → Int := spl off 4 8 (plusO (sh off S) (lowF n x)) S
def nx (n : Nat) (x h : Nat → Int) : Nat → Int := timesR (apx (n - 3) (hiF n x) h) restF 2 (n - 3)
noncomputable def G47 : GOrc := inl Tryd.prog q52 300 47 Tryd.f47 (inl Tryd.prog q52 300 63 Tryd.f63 G62)
theorem G47_ok : GOrcOK Tryd.prog G47 := inl_ok hM q52_ok (inl_ok hM q52_ok G62_ok Tryd.func63 (by kernel_rfl) (by kernel_rfl)) Tryd.func47 (by kernel_rfl) (by kernel_rfl)
/-- What is left to be brought below L: x0 .. x3: what is folded. -/
noncomputable def redS (f x1 x2 x3 : Nat → Int) (n0 n1 n2 n3 : Nat) : Nat → Int := fold (fold (fold (fold Z0 0 n0 f) 4 n1 x1) 0 n2 x2) 4 n3 x3
noncomputable def redM (o S : Nat → Int) : Nat → Int := minusO (plusO (sh 0 S) (plusO o o)) (sh 4 S)
theorem red4_t (e c : Nat) (o f : Nat → Int) (r : V) : awp Tryd.prog q52 G47 300 (body Tryd.f40) (ends Tryd.prog Tryd.f40 fun v _ => okV r v) ⟨[V.sl 1 0 4 c] ++ List.replicate 55 V.un, [V.tup [V.fn 2, V.ints .u64 4 o], V.tup [V.ints .u64 (e + 4) f]]⟩ = (∀ (_e0 : Nat) (h0 : Nat → Int), (gB (u4O (sh 0 Z0) && u4O (lowF 4 f)) (gB (u4O (sh 4 (fold Z0 0 4 f)) && u4O (lowF 3 (nx 4 f h0))) (gB (u4O (sh 0 (fold (fold Z0 0 4 f) 4 3 (nx 4 f h0))) && u4O (lowF 2 Z0)) (gB (u4O (sh 4 (fold (fold (fold Z0 0 4 f) 4 3 (nx 4 f h0)) 0 2 Z0)) && u4O (lowF 2 Z0)) (gB (u4O o && u4O o) (gB (u4O (sh 0 (fold (fold (fold (fold Z0 0 4 f) 4 3 (nx 4 f h0)) 0 2 Z0) 4 2 Z0)) && u4O (plusO o o)) (gB (u4O (redM o (fold (fold (fold (fold Z0 0 4 f) 4 3 (nx 4 f h0)) 0 2 Z0) 4 2 Z0)) && eqN 4 o ordF) (okV r (V.ints .u64 4 (belO o (redM o (fold (fold (fold (fold Z0 0 4 f) 4 3 (nx 4 f h0)) 0 2 Z0) 4 2 Z0))))))))))))) := by kernel_rfl
theorem red8_t (e c : Nat) (o f : Nat → Int) (r : V) : awp Tryd.prog q52 G47 300 (body Tryd.f40) (ends Tryd.prog Tryd.f40 fun v _ => okV r v) ⟨[V.sl 1 0 8 c] ++ List.replicate 55 V.un, [V.tup [V.fn 2, V.ints .u64 4 o], V.tup [V.ints .u64 (e + 8) f]]⟩ = (∀ (_e0 : Nat) (h0 : Nat → Int), (gB (u4O (sh 0 Z0) && u4O (lowF 8 f)) (∀ (_e1 : Nat) (h1 : Nat → Int), (gB (u4O (sh 4 (fold Z0 0 8 f)) && u4O (lowF 7 (nx 8 f h0))) (∀ (_e2 : Nat) (h2 : Nat → Int), (gB (u4O (sh 0 (fold (fold Z0 0 8 f) 4 7 (nx 8 f h0))) && u4O (lowF 6 (nx 7 (nx 8 f h0) h1))) (∀ (_e3 : Nat) (h3 : Nat → Int), (gB (u4O (sh 4 (fold (fold (fold Z0 0 8 f) 4 7 (nx 8 f h0)) 0 6 (nx 7 (nx 8 f h0) h1))) && u4O (lowF 5 (nx 6 (nx 7 (nx 8 f h0) h1) h2))) (gB (u4O o && u4O o) (gB (u4O (sh 0 (fold (fold (fold (fold Z0 0 8 f) 4 7 (nx 8 f h0)) 0 6 (nx 7 (nx 8 f h0) h1)) 4 5 (nx 6 (nx 7 (nx 8 f h0) h1) h2))) && u4O (plusO o o)) (gB (u4O (redM o (fold (fold (fold (fold Z0 0 8 f) 4 7 (nx 8 f h0)) 0 6 (nx 7 (nx 8 f h0) h1)) 4 5 (nx 6 (nx 7 (nx 8 f h0) h1) h2))) && eqN 4 o ordF) (okV r (V.ints .u64 4 (belO o (redM o (fold (fold (fold (fold Z0 0 8 f) 4 7 (nx 8 f h0)) 0 6 (nx 7 (nx 8 f h0) h1)) 4 5 (nx 6 (nx 7 (nx 8 f h0) h1) h2))))))))))))))))) := by kernel_rfl
end Go.Proofs.YtnoehjibponofaaDoor
