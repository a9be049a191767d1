/- The law CallsCounted (second form, up to the bulk): a part of its proof. No conditions. -/
import Derived.Test.YtgkdbjnmlecimaaC3
import Derived.Test.YtgkdbjnmlecimaaRows
import Derived.WalkKit
import Derived.ProofKit
import Derived.OpenShut
import Derived.ChangeOld
import Derived.Below
import Derived.Carry
import Derived.ChangeArms
import Derived.JoinedCond
set_option linter.unusedSimpArgs false
set_option linter.unusedVariables false
namespace Go.Proofs.Ytgkdbjnmlecimaa
open Go Go.GL Go.RowKit
set_option maxRecDepth 10000
def G0of (W : World) : GH := fun b => (W.heap[b]?).map fun o => (o, false)
theorem holdsG0 (W : World) : GL.Holds W (G0of W) W := by
  refine ⟨Below.refl _ _, ?_, ?_, Nat.le_refl _⟩
  · intro b o t h
    unfold G0of at h
    rw [Option.map_eq_some_iff] at h
    obtain ⟨o', h1, h2⟩ := h
    cases h2; exact h1
  · intro b o h
    unfold G0of at h
    rw [Option.map_eq_some_iff] at h
    obtain ⟨o', h1, h2⟩ := h
    cases h2
theorem mapM_some {α β : Type} {f : α → Option β} : ∀ (l : List α) (r : List β), l.mapM f = some r → r.length = l.length ∧ ∀ (i : Nat) x, l[i]? = some x → f x = r[i]?
  | [], r, h => by
    rw [List.mapM_nil] at h; cases h; exact ⟨rfl, by simp⟩
  | y :: l, r, h => by
    rw [List.mapM_cons] at h
    simp only [bind, Option.bind_eq_some_iff, pure, Option.some.injEq] at h
    obtain ⟨b, hb, r', hr, rfl⟩ := h
    obtain ⟨h1, h2⟩ := mapM_some l r' hr
    refine ⟨by simp [h1], ?_⟩
    intro i x hx
    cases i with
    | zero => simp at hx; subst hx; simpa using hb
    | succ i => simp at hx; simpa using h2 i x hx
theorem cellsI_of {W : World} {a : Addr} {n : Nat} {cs : List Value} (hn : 0 < n) (h : W.cells? 0 a n = some cs) : gcellsI (G0of W) a n = some cs := by
  unfold World.cells? at h
  rw [if_pos (Nat.zero_le _)] at h
  obtain ⟨h1, h2⟩ := mapM_some _ _ h
  rw [List.length_range] at h1
  have hc : ∀ i, i < n → W.cell? (a.add i) = cs[i]? := fun i hi => h2 i i (by simp [hi])
  have h0 := hc 0 hn
  have ha0 : a.add 0 = a := by cases a; rfl
  rw [ha0, List.getElem?_eq_getElem (by omega)] at h0
  unfold World.cell? at h0
  split at h0
  case h_2 => cases h0
  rename_i c e fr hb
  split at h0
  · cases h0
  rename_i hsp
  have hspn : a.spot = none := by cases hs : a.spot <;> simp_all
  have hall : ∀ i, i < n → c[a.off + i]? = cs[i]? := by
    intro i hi
    have := hc i hi
    unfold World.cell? at this
    rw [add_block, hb] at this
    simp only [add_spot _ _ hspn, add_off, Option.isSome_none, Bool.false_eq_true, if_false] at this
    exact this
  have hlast := hall (n - 1) (by omega)
  rw [List.getElem?_eq_getElem (by omega)] at hlast
  have hsz : a.off + n ≤ c.size := by
    have := (Array.getElem?_eq_some_iff.1 hlast).1
    omega
  unfold gcellsI G0of
  simp only [hb, Option.map_some]
  rw [if_pos ⟨by rw [hspn]; rfl, hsz⟩]
  congr 1
  apply List.ext_getElem?
  intro i
  rw [List.getElem?_take]
  split
  · rename_i hi
    rw [List.getElem?_drop, Array.getElem?_toList, hall i hi]
  · rw [List.getElem?_eq_none (by omega)]
theorem exists_list {α : Type} {Q : Nat → α → Prop} : ∀ n, (∀ i, i < n → ∃ x, Q i x) → ∃ l : List α, l.length = n ∧ ∀ (i : Nat) x, l[i]? = some x → Q i x
  | 0, _ => ⟨[], rfl, by simp⟩
  | n + 1, h => by
    obtain ⟨l, h1, h2⟩ := exists_list n fun i hi => h i (by omega)
    obtain ⟨x, hx⟩ := h n (by omega)
    refine ⟨l ++ [x], by simp [h1], ?_⟩
    intro i y hy
    rw [List.getElem?_append] at hy
    split at hy
    · exact h2 i y hy
    · rename_i hi
      have : i = n := by
        by_cases e : i = n
        · exact e
        · rw [List.getElem?_eq_none (by simp; omega)] at hy; cases hy
      subst this
      simp [h1] at hy
      subst hy; exact hx
section
variable {H : Type} {enc : TypeId × Value → H} {W : World} {sp : Nat → Bool} {held : Bool}
theorem wf_i64 {n : Int} (h : (Lit.int .i64 n).wf = true) : i64 n := by
  simp [Lit.wf, IntKind.min, IntKind.max, IntKind.signed, IntKind.bits] at h
  unfold i64; omega
theorem call_of_trod {fuel : Nat} {cs : List Value} {x : DataW H × List MemPlace} (h : DataW.trod enc Try.prog W 0 sp held fuel 38 cs = some x) : ∃ c : SCall, rCall.R (G0of W) c cs := by
  obtain ⟨xs, n, _, _, hlen, hxl, hf⟩ := DataW.trod_struct Try.underlying38 h
  rw [show Try.prog.cellsOf 38 = 3 from by kernel_rfl] at hlen
  obtain ⟨x0, x1, x2, rfl⟩ : ∃ x0 x1 x2, cs = [x0, x1, x2] := by
    rcases cs with _ | ⟨x0, _ | ⟨x1, _ | ⟨x2, _ | ⟨x3, r⟩⟩⟩⟩
    · cases hlen
    · cases hlen
    · cases hlen
    · exact ⟨_, _, _, rfl⟩
    · simp at hlen
  have hxl : xs.length = 3 := hxl
  have f0 : DataW.trod enc Try.prog W 0 sp held n 3 (([x0, x1, x2].drop 0).take (Try.prog.cellsOf 3)) = xs[0]? := hf 0 _ rfl
  have f1 : DataW.trod enc Try.prog W 0 sp held n 3 (([x0, x1, x2].drop 1).take (Try.prog.cellsOf 3)) = xs[1]? := hf 1 _ rfl
  have f2 : DataW.trod enc Try.prog W 0 sp held n 3 (([x0, x1, x2].drop 2).take (Try.prog.cellsOf 3)) = xs[2]? := hf 2 _ rfl
  clear hf
  rw [List.getElem?_eq_getElem (by omega)] at f0 f1 f2
  obtain ⟨n0, e0, _, w0⟩ := DataW.trod_int Try.underlying3 f0
  obtain ⟨n1, e1, _, w1⟩ := DataW.trod_int Try.underlying3 f1
  obtain ⟨n2, e2, _, w2⟩ := DataW.trod_int Try.underlying3 f2
  rw [show Try.prog.cellsOf 3 = 1 from by kernel_rfl] at e0 e1 e2
  simp at e0 e1 e2
  subst e0 e1 e2
  exact ⟨⟨n0, n1, n2⟩, rfl, wf_i64 w0, wf_i64 w1, wf_i64 w2⟩
theorem calls_of_trod {a0 : Option Addr} {n0 c0 : Nat} {d : DataW H} {ps : List MemPlace} (h : DataW.Trod enc Try.prog W 0 sp held 22 (.slice a0 n0 c0) d ps) : ∃ l : List SCall, RSl rCall (G0of W) (.slice a0 n0 c0) l ∧ l.length ≤ Rows.uptoBulk d := by
  obtain ⟨fuel, hf⟩ := h
  rcases DataW.trod_slice Try.underlying22 hf with ⟨hcs, hx⟩ | ⟨a, len, cap, elems, rest, n, _, hcs, hx, _, hlc, _, hel, he, _⟩
  · simp [Value.cells] at hcs
    obtain ⟨rfl, rfl, rfl⟩ := hcs
    exact ⟨[], RSl.nil _ _, Nat.zero_le _⟩
  · simp [Value.cells] at hcs
    obtain ⟨rfl, rfl, rfl⟩ := hcs
    cases hx
    rw [show Try.prog.cellsOf 38 = 3 from by kernel_rfl] at he
    have key : ∀ i, i < n0 → ∃ c : SCall, ∃ cs, gcellsI (G0of W) (a.add (i * 3)) 3 = some cs ∧ rCall.R (G0of W) c cs := by
      intro i hi
      have h1 := he i hi
      rw [List.getElem?_eq_getElem (by omega), Option.bind_eq_some_iff] at h1
      obtain ⟨cs, h2, h3⟩ := h1
      obtain ⟨c, hc⟩ := call_of_trod h3
      exact ⟨c, cs, cellsI_of (by decide) h2, hc⟩
    obtain ⟨l, h1, h2⟩ := exists_list n0 key
    refine ⟨l, ⟨some a, n0, c0, rfl, h1, hlc, fun hpos => ⟨a, rfl, ?_, fun i x hx => h2 i x hx⟩⟩, ?_⟩
    · obtain ⟨c, cs, hg, _⟩ := key 0 hpos
      have e : a.add (0 * 3) = a := by cases a; rfl
      rw [e] at hg
      unfold gcellsI at hg
      split at hg
      · split at hg
        · rename_i hc; have := hc.1; cases hs : a.spot <;> simp_all
        · cases hg
      · cases hg
    · have hle : ∀ (l : List (DataW H)), l.length ≤ Rows.uptoBulkAll l := by
        intro l
        induction l with
        | nil => simp [Rows.uptoBulkAll]
        | cons x r ih =>
          have h1 : 1 ≤ Rows.uptoBulk x := by
            cases x with
            | lit l => cases l <;> simp [Rows.uptoBulk]
            | _ => simp [Rows.uptoBulk]
          simp only [Rows.uptoBulkAll, List.length_cons]; omega
      have h3 := hle (elems.map (·.1))
      simp only [Rows.uptoBulk]
      rw [List.length_map] at h3
      omega
end
end Go.Proofs.Ytgkdbjnmlecimaa
