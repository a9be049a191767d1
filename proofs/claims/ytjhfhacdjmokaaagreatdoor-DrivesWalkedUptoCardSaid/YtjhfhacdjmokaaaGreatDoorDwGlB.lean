/- A part of a proof: Walk and Length are as specified for all roads and arcs (statement DrivesWalkedUptoCardSaid) -/
import Derived.Deep.LoopGhost
import Derived.Test.YtjhfhacdjmokaaaGreatDoorDwGlA
set_option linter.unusedSimpArgs false
set_option linter.unusedVariables false
set_option linter.unusedSectionVars false
namespace Go.GL
open Go Go.RowKit
abbrev Fr := Nat → Value
def ev (f : Fr) : Operand → Value
  | .tmp t => f t
  | .const v => v
  | .global g => .pointer (some ⟨g, 0, none⟩)
  | .func n => .func (.func n) #[] #[]
def put (f : Fr) (d : Option Nat) (v : Value) : Fr :=
  match d with
  | some d => fun t => if t = d then v else f t
  | none => f
structure Sim (n : Nat) (f : Fr) (a : Act) : Prop where
  size : a.tmps.size = n
  val : ∀ t, a.tmps.getD t undef = f t
  defers : a.defers = []
theorem Sim.eval {n : Nat} {f : Fr} {a : Act} (h : Sim n f a) : a.eval = ev f := by
  funext x
  cases x with
  | tmp t => exact h.val t
  | _ => rfl
theorem Sim.put {n : Nat} {f : Fr} {a : Act} (h : Sim n f a) (d : Option Nat) (v : Value) (hd : ∀ k, d = some k → k < n) : Sim n (put f d v) (a.put d v) := by
  cases d with
  | none => exact h
  | some k =>
    refine ⟨by simp [Act.put, h.size], fun t => ?_, by simp [Act.put, h.defers]⟩
    have hk := hd k rfl
    simp only [Act.put, GL.put]
    by_cases e : t = k
    · subst e; simp [h.size, hk]
    · have := h.val t
      simp only [e, if_false]
      rw [← this]
      simp [Array.getD_eq_getD_getElem?, Ne.symm e]
def GCalls (P : Program) (n : Nat) (args : Array Value) (G : GH) (K : Value → GH → Prop) : Prop :=
  ∀ w0 w, Holds w0 G w → Calls P n args w fun e w' => ∃ v G', e = .returned v ∧ Holds w0 G' w' ∧ K v G'
theorem GCalls.mono {P : Program} {n : Nat} {args : Array Value} {G : GH} {K K' : Value → GH → Prop} (h : GCalls P n args G K) (hk : ∀ v G', K v G' → K' v G') : GCalls P n args G K' :=
  fun w0 w hw => (h w0 w hw).mono fun _ _ ⟨v, G', he, hh, k⟩ => ⟨v, G', he, hh, hk _ _ k⟩
def gnext (P : Program) (K : Value → GH → Prop) : Next → GH → Prop
  | .value v, G => K v G
  | .skip, G => K undef G
  | .enter n args, G => GCalls P n args G K
  | _, _ => False
def gop (P : Program) (o : Oper) (f : Fr) (G : GH) (K : Value → GH → Prop) : Prop := gwp P (execOp (ev f) o) G (gnext P K)
end Go.GL
