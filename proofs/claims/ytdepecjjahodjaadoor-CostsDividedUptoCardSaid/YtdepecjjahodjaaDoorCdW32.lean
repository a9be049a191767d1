/- A part of a proof: CostsDivided: a card of costs, parts and legs: what Divide, CheckLegs and ByLegs give is what their simple ones give -/
import Derived.Test.YtdepecjjahodjaaDoorCdGlMk
import Derived.Test.YtdepecjjahodjaaDoorCdSh
import Derived.Test.YtdepecjjahodjaaDoorCdW30
import Derived.Test.YtdepecjjahodjaaDoorCdW31
set_option linter.unusedSimpArgs false
set_option linter.unusedVariables false
set_option linter.unusedSectionVars false
namespace Go.Proofs.YtdepecjjahodjaaDoor
open Go Go.GL
attribute [local irreducible] Ycall GCalls
set_option maxRecDepth 10000
set_option maxHeartbeats 0
section
variable {α : Type} {key : α → Int}
def SEq (key : α → Int) (l m : List α) : Prop := ∀ k : Int, l.filter (fun x => decide (key x = k)) = m.filter (fun x => decide (key x = k))
theorem SEq.refl (l : List α) : SEq key l l := fun _ => rfl
theorem SEq.symm {l m : List α} (h : SEq key l m) : SEq key m l := fun k => (h k).symm
theorem SEq.trans {l m n : List α} (h : SEq key l m) (g : SEq key m n) : SEq key l n := fun k => (h k).trans (g k)
theorem SEq.app {l m l' m' : List α} (h : SEq key l m) (g : SEq key l' m') : SEq key (l ++ l') (m ++ m') := fun k => by rw [List.filter_append, List.filter_append, h k, g k]
theorem SEq.mem {l m : List α} (h : SEq key l m) {x : α} (hx : x ∈ l) : x ∈ m := by
  have : x ∈ l.filter (fun y => decide (key y = key x)) := by simp [hx]
  rw [h (key x)] at this
  exact (List.mem_filter.1 this).1
theorem SEq.nil {m : List α} (h : SEq key [] m) : m = [] := by
  cases m with
  | nil => rfl
  | cons x m => exact absurd (h.symm.mem (by simp : x ∈ x :: m)) (by simp)
theorem SEq.tail {x : α} {l m : List α} (h : SEq key (x :: l) (x :: m)) : SEq key l m := by
  intro k
  have := h k
  by_cases c : key x = k
  · simpa [List.filter_cons, c] using this
  · simpa [List.filter_cons, c] using this
def Rise (key : α → Int) (l : List α) : Prop := l.Pairwise fun x y => key x ≤ key y
theorem rise_unique : ∀ {l m : List α}, SEq key l m → Rise key l → Rise key m → l = m
  | [], m, h, _, _ => h.nil.symm
  | x :: l, [], h, _, _ => absurd h.symm.nil (by simp)
  | x :: l, y :: m, h, h1, h2 => by
    have a1 := List.pairwise_cons.1 h1
    have a2 := List.pairwise_cons.1 h2
    have hk : key x = key y := by
      have hx : x ∈ y :: m := h.mem (by simp)
      have hy : y ∈ x :: l := h.symm.mem (by simp)
      have b1 : key y ≤ key x := by
        rcases List.mem_cons.1 hx with e | q
        · rw [e]; omega
        · exact a2.1 x q
      have b2 : key x ≤ key y := by
        rcases List.mem_cons.1 hy with e | q
        · rw [e]; omega
        · exact a1.1 y q
      omega
    have e : x = y := by
      have := h (key x)
      simp only [List.filter_cons, hk, decide_true, if_true] at this
      exact (List.cons.inj this).1
    subst e
    rw [rise_unique h.tail a1.2 a2.2]
theorem seq_swap {A B : List α} (h : ∀ x ∈ A, ∀ y ∈ B, key y < key x) : SEq key (A ++ B) (B ++ A) := by
  intro k
  rw [List.filter_append, List.filter_append]
  by_cases c : ∃ x ∈ A, key x = k
  · obtain ⟨x, hx, e⟩ := c
    have : B.filter (fun x => decide (key x = k)) = [] := by
      rw [List.filter_eq_nil_iff]; intro y hy; have := h x hx y hy; simp; omega
    rw [this]; simp
  · have : A.filter (fun x => decide (key x = k)) = [] := by
      rw [List.filter_eq_nil_iff]; intro y hy; simp; exact fun e => c ⟨y, hy, e⟩
    rw [this]; simp
theorem rise_app {A B : List α} : Rise key (A ++ B) ↔ Rise key A ∧ Rise key B ∧ ∀ x ∈ A, ∀ y ∈ B, key x ≤ key y := List.pairwise_append
theorem merge_halves {A1 A2 B1 B2 M1 M2 : List α} (hA : Rise key (A1 ++ A2)) (hB : Rise key (B1 ++ B2)) (h1 : ∀ x ∈ A1, ∀ y ∈ B2, key x ≤ key y) (h2 : ∀ x ∈ A2, ∀ y ∈ B1, key y < key x)
    (r1 : Rise key M1) (r2 : Rise key M2) (s1 : SEq key (A1 ++ B1) M1) (s2 : SEq key (A2 ++ B2) M2) : Rise key (M1 ++ M2) ∧ SEq key ((A1 ++ A2) ++ (B1 ++ B2)) (M1 ++ M2) := by
  obtain ⟨a1, a2, a3⟩ := rise_app.1 hA
  obtain ⟨b1, b2, b3⟩ := rise_app.1 hB
  refine ⟨rise_app.2 ⟨r1, r2, fun x hx y hy => ?_⟩, ?_⟩
  · rcases List.mem_append.1 (s1.symm.mem hx) with hx | hx <;> rcases List.mem_append.1 (s2.symm.mem hy) with hy | hy
    · exact a3 x hx y hy
    · exact h1 x hx y hy
    · have := h2 y hy x hx; omega
    · exact b3 x hx y hy
  · have e1 : (A1 ++ A2) ++ (B1 ++ B2) = A1 ++ ((A2 ++ B1) ++ B2) := by simp
    rw [e1]
    refine SEq.trans (SEq.app (.refl A1) (SEq.app (seq_swap h2) (.refl B2))) ?_
    have e2 : A1 ++ ((B1 ++ A2) ++ B2) = (A1 ++ B1) ++ (A2 ++ B2) := by simp
    rw [e2]; exact SEq.app s1 s2
theorem seq_perm {l m : List α} (h : SEq key l m) : l.length = m.length := by
  suffices ∀ (n : Nat) (l m : List α), l.length = n → SEq key l m → l.length = m.length from this _ l m rfl h
  intro n
  induction n using Nat.strongRecOn with
  | ind n ih =>
    intro l m hn h
    cases l with
    | nil => rw [h.nil]
    | cons x l =>
      have hf := h (key x)
      have hm : ∀ l : List α, l.length = (l.filter (fun y => decide (key y = key x))).length + (l.filter (fun y => !decide (key y = key x))).length := by
        intro l
        induction l with
        | nil => rfl
        | cons y l ih => simp only [List.filter_cons]; split <;> simp_all <;> omega
      have hl := hm (x :: l)
      have hr := hm m
      have hlt : ((x :: l).filter (fun y => !decide (key y = key x))).length < n := by
        have : 0 < ((x :: l).filter (fun y => decide (key y = key x))).length := by simp [List.filter_cons]
        omega
      have hs : SEq key ((x :: l).filter (fun y => !decide (key y = key x))) (m.filter (fun y => !decide (key y = key x))) := by
        intro k
        rw [List.filter_filter, List.filter_filter]
        by_cases c : k = key x
        · subst c
          rw [List.filter_eq_nil_iff.2 (by intro y _; simp), List.filter_eq_nil_iff.2 (by intro y _; simp)]
        · have e : ∀ l : List α, l.filter (fun a => decide (key a = k) && !decide (key a = key x)) = l.filter (fun a => decide (key a = k)) := by
            intro l; apply List.filter_congr; intro y _
            by_cases q : key y = k
            · simp [q, c]
            · simp [q]
          rw [e, e]; exact h k
      have := ih _ hlt _ _ rfl hs
      rw [hf] at hl
      omega
end
section
variable {α : Type} {key : α → Int}
theorem at_app {P S : List α} {x : α} {i : Nat} (h : P.length = i) : (P ++ x :: S)[i]? = some x := by
  subst h; rw [List.getElem?_append_right (Nat.le_refl _)]; simp
theorem set_app {P S : List α} {x y : α} {i : Nat} (h : P.length = i) : (P ++ x :: S).set i y = P ++ y :: S := by
  subst h; rw [List.set_append_right _ _ (Nat.le_refl _)]; simp
def swap2 (D : List α) (p q : Nat) : List α := match D[p]?, D[q]? with
  | some x, some y => (D.set p y).set q x
  | _, _ => D
theorem swap2_at {D : List α} {p q : Nat} {x y : α} (h1 : D[p]? = some x) (h2 : D[q]? = some y) : swap2 D p q = (D.set p y).set q x := by unfold swap2; rw [h1, h2]
theorem swap2_app {P M S : List α} {x y : α} {p q : Nat} (h1 : P.length = p) (h2 : P.length + 1 + M.length = q) : swap2 (P ++ x :: (M ++ y :: S)) p q = P ++ y :: (M ++ x :: S) := by
  have e1 : (P ++ x :: (M ++ y :: S))[p]? = some x := at_app h1
  have e0 : ∀ z w : α, P ++ z :: (M ++ w :: S) = (P ++ z :: M) ++ w :: S := by intro z w; simp
  have e2 : (P ++ x :: (M ++ y :: S))[q]? = some y := by rw [e0]; exact at_app (by simp; omega)
  rw [swap2_at e1 e2, set_app h1, e0, set_app (by simp; omega), ← e0]
theorem swap2_len (D : List α) (p q : Nat) : (swap2 D p q).length = D.length := by unfold swap2; split <;> simp
def swapN (D : List α) (a b : Nat) : Nat → List α
  | 0 => D
  | i + 1 => swap2 (swapN D a b i) (a + i) (b + i)
theorem swapN_len (D : List α) (a b : Nat) : ∀ n, (swapN D a b n).length = D.length
  | 0 => rfl
  | n + 1 => by unfold swapN; rw [swap2_len, swapN_len D a b n]
theorem snoc_of {n : Nat} {X : List α} (h : X.length = n + 1) : ∃ X0 x, X = X0 ++ [x] ∧ X0.length = n := by
  rcases List.eq_nil_or_concat X with rfl | ⟨X0, x, rfl⟩
  · cases h
  · exact ⟨X0, x, by simp, by simpa using h⟩
theorem swapN_app : ∀ (n : Nat) (P X M Y S : List α), X.length = n → Y.length = n → swapN (P ++ (X ++ (M ++ (Y ++ S)))) P.length (P.length + n + M.length) n = P ++ (Y ++ (M ++ (X ++ S)))
  | 0, P, X, M, Y, S, h1, h2 => by
    obtain rfl := List.length_eq_zero_iff.1 h1
    obtain rfl := List.length_eq_zero_iff.1 h2
    rfl
  | n + 1, P, X, M, Y, S, h1, h2 => by
    obtain ⟨X0, x, rfl, hx⟩ := snoc_of h1
    obtain ⟨Y0, y, rfl, hy⟩ := snoc_of h2
    have := swapN_app n P X0 (x :: M) Y0 (y :: S) hx hy
    have e : P ++ (X0 ++ [x] ++ (M ++ (Y0 ++ [y] ++ S))) = P ++ (X0 ++ (x :: M ++ (Y0 ++ y :: S))) := by simp
    unfold swapN
    rw [e, show P.length + (n + 1) + M.length = P.length + n + (x :: M).length by simp; omega, this]
    have e2 : P ++ (Y0 ++ (x :: M ++ (X0 ++ y :: S))) = (P ++ Y0) ++ x :: ((M ++ X0) ++ y :: S) := by simp
    rw [e2, swap2_app (by simp; omega) (by simp; omega)]
    simp
def RotInv (T : List α) (m i j : Nat) (D : List α) : Prop := ∃ P U V S, D = P ++ (U ++ (V ++ S)) ∧ P.length + i = m ∧ U.length = i ∧ V.length = j ∧ P ++ (V ++ (U ++ S)) = T
theorem split_at {l : List α} {n : Nat} (h : n ≤ l.length) : ∃ A B, l = A ++ B ∧ A.length = n ∧ B.length = l.length - n := ⟨l.take n, l.drop n, (List.take_append_drop n l).symm, by rw [List.length_take]; omega, by rw [List.length_drop]⟩
theorem rot_gt {T D : List α} {m i j : Nat} (h : RotInv T m i j D) (c : j < i) : RotInv T m (i - j) j (swapN D (m - i) m j) := by
  obtain ⟨P, U, V, S, rfl, hp, hu, hv, hT⟩ := h
  obtain ⟨U1, U2, rfl, h1, h2⟩ := split_at (l := U) (n := j) (by omega)
  have := swapN_app j P U1 U2 V S h1 hv
  have e : P ++ (U1 ++ U2 ++ (V ++ S)) = P ++ (U1 ++ (U2 ++ (V ++ S))) := by simp
  rw [e, show m - i = P.length by omega, show m = P.length + j + U2.length by omega, this]
  exact ⟨P ++ V, U2, U1, S, by simp, by rw [List.length_append]; omega, by omega, h1, by rw [← hT]; simp⟩
theorem rot_lt {T D : List α} {m i j : Nat} (h : RotInv T m i j D) (c : i < j) : RotInv T m i (j - i) (swapN D (m - i) (m + j - i) i) := by
  obtain ⟨P, U, V, S, rfl, hp, hu, hv, hT⟩ := h
  obtain ⟨V1, V2, rfl, h1, h2⟩ := split_at (l := V) (n := j - i) (by omega)
  have := swapN_app i P U V1 V2 S hu (by omega)
  have e : P ++ (U ++ (V1 ++ V2 ++ S)) = P ++ (U ++ (V1 ++ (V2 ++ S))) := by simp
  rw [e, show m - i = P.length by omega, show m + j - i = P.length + i + V1.length by omega, this]
  exact ⟨P, V2, V1, U ++ S, by simp, hp, by omega, h1, by rw [← hT]; simp⟩
theorem rot_eq {T D : List α} {m i : Nat} (h : RotInv T m i i D) : swapN D (m - i) m i = T := by
  obtain ⟨P, U, V, S, rfl, hp, hu, hv, hT⟩ := h
  have := swapN_app i P U [] V S hu hv
  simp only [List.nil_append, List.length_nil, Nat.add_zero] at this
  rw [show m - i = P.length by omega, show m = P.length + i by omega, this, hT]
theorem rot_len {T D : List α} {m i j : Nat} (h : RotInv T m i j D) : D.length = T.length ∧ i ≤ m ∧ m + j ≤ D.length := by
  obtain ⟨P, U, V, S, rfl, hp, hu, hv, rfl⟩ := h
  simp only [List.length_append]; omega
def Seg (R : List α → List α → Prop) (a b : Nat) (D D' : List α) : Prop := ∃ P X X' S, D = P ++ (X ++ S) ∧ D' = P ++ (X' ++ S) ∧ P.length = a ∧ a + X.length = b ∧ X'.length = X.length ∧ R X X'
def MergeR (key : α → Int) (m : Nat) (X X' : List α) : Prop := ∀ A B, X = A ++ B → A.length = m → Rise key A → Rise key B → Rise key X' ∧ SEq key X X'
def InsInv (key : α → Int) (P : List α) (x : α) (A S D : List α) (j : Nat) : Prop := ∃ A1 A2, A = A1 ++ A2 ∧ D = P ++ (A1 ++ x :: (A2 ++ S)) ∧ P.length + A1.length = j ∧ ∀ y ∈ A2, key x < key y
theorem ins_start {P A S : List α} {x : α} {j : Nat} (h : P.length + A.length = j) : InsInv key P x A S (P ++ (A ++ x :: S)) j := ⟨A, [], by simp, by simp, h, by simp⟩
theorem ins_step {P A S D : List α} {x y z : α} {j : Nat} (h : InsInv key P x A S D j) (hj : P.length < j) (h1 : D[j]? = some y) (h2 : D[j - 1]? = some z) (hA : Rise key A) (c : key y < key z) : InsInv key P x A S ((D.set j z).set (j - 1) y) (j - 1) := by
  obtain ⟨A1, A2, rfl, rfl, h3, h4⟩ := h
  obtain ⟨A0, w, rfl, h5⟩ := snoc_of (X := A1) (n := A1.length - 1) (by omega)
  simp only [List.length_append, List.length_singleton] at h3
  have e : P ++ (A0 ++ [w] ++ x :: (A2 ++ S)) = (P ++ A0) ++ w :: (x :: (A2 ++ S)) := by simp
  have e' : (P ++ A0) ++ w :: (x :: (A2 ++ S)) = ((P ++ A0) ++ [w]) ++ x :: (A2 ++ S) := by simp
  rw [e] at h1 h2 ⊢
  have g2 := at_app (P := P ++ A0) (S := x :: (A2 ++ S)) (x := w) (i := j - 1) (by simp; omega)
  rw [g2] at h2; cases h2
  rw [e'] at h1
  have g1 := at_app (P := P ++ A0 ++ [z]) (S := A2 ++ S) (x := x) (i := j) (by simp; omega)
  rw [g1] at h1; cases h1
  refine ⟨A0, z :: A2, by simp, ?_, by omega, ?_⟩
  · rw [e', set_app (by simp; omega)]
    have e2 : ((P ++ A0) ++ [z]) ++ z :: (A2 ++ S) = (P ++ A0) ++ z :: (z :: (A2 ++ S)) := by simp
    rw [e2, set_app (by simp; omega)]; simp
  · intro q hq
    rcases List.mem_cons.1 hq with rfl | hq
    · exact c
    · exact h4 q hq
theorem ins_done {P A S D : List α} {x : α} {j : Nat} (h : InsInv key P x A S D j) (hA : Rise key A) (c : j = P.length ∨ ∃ y z, D[j]? = some y ∧ D[j - 1]? = some z ∧ P.length < j ∧ ¬ key y < key z) : ∃ A', D = P ++ (A' ++ S) ∧ Rise key A' ∧ SEq key (A ++ [x]) A' := by
  obtain ⟨A1, A2, rfl, rfl, h3, h4⟩ := h
  obtain ⟨r1, r2, r3⟩ := rise_app.1 hA
  refine ⟨A1 ++ x :: A2, by simp, ?_, ?_⟩
  · have hx : ∀ y ∈ A1, key y ≤ key x := by
      intro y hy
      rcases c with c | ⟨u, z, h1, h2, hj, c⟩
      · have : A1 = [] := List.length_eq_zero_iff.1 (by omega)
        subst this; cases hy
      · obtain ⟨A0, w, rfl, h5⟩ := snoc_of (X := A1) (n := A1.length - 1) (by omega)
        simp only [List.length_append, List.length_singleton] at h3
        have e : P ++ (A0 ++ [w] ++ x :: (A2 ++ S)) = (P ++ A0) ++ w :: (x :: (A2 ++ S)) := by simp
        have e' : (P ++ A0) ++ w :: (x :: (A2 ++ S)) = ((P ++ A0) ++ [w]) ++ x :: (A2 ++ S) := by simp
        rw [e] at h1 h2
        have g2 := at_app (P := P ++ A0) (S := x :: (A2 ++ S)) (x := w) (i := j - 1) (by simp; omega)
        rw [g2] at h2; cases h2
        rw [e'] at h1
        have g1 := at_app (P := P ++ A0 ++ [z]) (S := A2 ++ S) (x := x) (i := j) (by simp; omega)
        rw [g1] at h1; cases h1
        rcases List.mem_append.1 hy with hy | hy
        · have := (rise_app.1 r1).2.2 y hy z (by simp); omega
        · obtain rfl : y = z := by simpa using hy
          omega
    refine rise_app.2 ⟨r1, List.pairwise_cons.2 ⟨fun y hy => by have := h4 y hy; omega, r2⟩, fun y hy z hz => ?_⟩
    rcases List.mem_cons.1 hz with rfl | hz
    · exact hx y hy
    · exact r3 y hy z hz
  · have e : A1 ++ A2 ++ [x] = A1 ++ (A2 ++ [x]) := by simp
    rw [e]
    exact SEq.app (.refl A1) (seq_swap (A := A2) (B := [x]) (fun a ha b hb => by have e : b = x := (by simpa using hb); subst e; exact h4 a ha))
def SortR (key : α → Int) (X X' : List α) : Prop := Rise key X' ∧ SEq key X X'
end
section
variable {α : Type} {key : α → Int}
def MoveInv (P : List α) (x : α) (B T D : List α) (k : Nat) : Prop := ∃ C1 C2, B = C1 ++ C2 ∧ D = P ++ (C1 ++ x :: (C2 ++ T)) ∧ P.length + C1.length = k
theorem move_len {P B T D : List α} {x : α} {k : Nat} (h : MoveInv P x B T D k) : P.length ≤ k ∧ k ≤ P.length + B.length ∧ D.length = P.length + B.length + 1 + T.length := by
  obtain ⟨C1, C2, rfl, rfl, h3⟩ := h
  simp only [List.length_append, List.length_cons]; omega
theorem move_up {P B T D : List α} {x y z : α} {k : Nat} (h : MoveInv P x B T D k) (hk : k < P.length + B.length) (h1 : D[k]? = some y) (h2 : D[k + 1]? = some z) : MoveInv P x B T ((D.set k z).set (k + 1) y) (k + 1) := by
  obtain ⟨C1, C2, rfl, rfl, h3⟩ := h
  cases C2 with
  | nil => simp at hk; omega
  | cons w C2 =>
    have e1 : P ++ (C1 ++ x :: (w :: C2 ++ T)) = (P ++ C1) ++ x :: ([] ++ w :: (C2 ++ T)) := by simp
    have e2 : ∀ u v : α, (P ++ C1) ++ u :: v :: (C2 ++ T) = ((P ++ C1) ++ [u]) ++ v :: (C2 ++ T) := by intro u v; simp
    rw [e1] at h1 h2 ⊢
    have g1 := at_app (P := P ++ C1) (S := [] ++ w :: (C2 ++ T)) (x := x) (i := k) (by simp; omega)
    rw [g1] at h1; cases h1
    rw [List.nil_append, e2] at h2
    have g2 := at_app (P := (P ++ C1) ++ [x]) (S := C2 ++ T) (x := w) (i := k + 1) (by simp; omega)
    rw [g2] at h2; cases h2
    refine ⟨C1 ++ [z], C2, by simp, ?_, by simp; omega⟩
    rw [List.nil_append, set_app (by simp; omega), e2, set_app (by simp; omega)]; simp
theorem move_down {P B T D : List α} {x y z : α} {k : Nat} (h : MoveInv P x B T D k) (hk : P.length < k) (h1 : D[k]? = some y) (h2 : D[k - 1]? = some z) : MoveInv P x B T ((D.set k z).set (k - 1) y) (k - 1) := by
  obtain ⟨C1, C2, rfl, rfl, h3⟩ := h
  obtain ⟨C0, w, rfl, h5⟩ := snoc_of (X := C1) (n := C1.length - 1) (by omega)
  simp only [List.length_append, List.length_singleton] at h3
  have e : P ++ (C0 ++ [w] ++ x :: (C2 ++ T)) = (P ++ C0) ++ w :: (x :: (C2 ++ T)) := by simp
  have e' : ∀ u v : α, (P ++ C0) ++ u :: (v :: (C2 ++ T)) = ((P ++ C0) ++ [u]) ++ v :: (C2 ++ T) := by intro u v; simp
  rw [e] at h1 h2 ⊢
  have g2 := at_app (P := P ++ C0) (S := x :: (C2 ++ T)) (x := w) (i := k - 1) (by simp; omega)
  rw [g2] at h2; cases h2
  rw [e'] at h1
  have g1 := at_app (P := P ++ C0 ++ [z]) (S := C2 ++ T) (x := x) (i := k) (by simp; omega)
  rw [g1] at h1; cases h1
  refine ⟨C0, z :: C2, by simp, ?_, by omega⟩
  rw [e', set_app (by simp; omega), ← e', set_app (by simp; omega)]; simp
theorem move_end {P B T D : List α} {x : α} {k : Nat} (h : MoveInv P x B T D k) (hk : k = P.length + B.length) : D = P ++ (B ++ x :: T) := by
  obtain ⟨C1, C2, rfl, rfl, h3⟩ := h
  have : C2 = [] := List.length_eq_zero_iff.1 (by rw [List.length_append] at hk; omega)
  subst this; simp
theorem move_home {P B T D : List α} {x : α} {k : Nat} (h : MoveInv P x B T D k) (hk : k = P.length) : D = P ++ (x :: (B ++ T)) := by
  obtain ⟨C1, C2, rfl, rfl, h3⟩ := h
  have : C1 = [] := List.length_eq_zero_iff.1 (by omega)
  subst this; simp
def Lo (D : List α) (a i : Nat) (Q : α → Prop) : Prop := i = a ∨ ∃ x, D[i - 1]? = some x ∧ Q x
def Hi (D : List α) (b j : Nat) (Q : α → Prop) : Prop := j = b ∨ ∃ x, D[j]? = some x ∧ Q x
theorem seg_at {P X S : List α} {i : Nat} (h1 : P.length ≤ i) (h2 : i < P.length + X.length) : (P ++ (X ++ S))[i]? = X[i - P.length]? := by
  rw [List.getElem?_append_right h1, List.getElem?_append_left (by omega)]
theorem lo_all {P X S : List α} {i : Nat} {Q : α → Prop} (hX : Rise key X) (h : Lo (P ++ (X ++ S)) P.length i Q) (hQ : ∀ x y, key x ≤ key y → Q y → Q x) (h1 : P.length ≤ i) (h2 : i ≤ P.length + X.length) : ∀ x ∈ X.take (i - P.length), Q x := by
  intro x hx
  rcases h with h | ⟨y, hy, q⟩
  · subst h; simp at hx
  · by_cases c : P.length = i
    · subst c; simp at hx
    rw [seg_at (by omega) (by omega)] at hy
    obtain ⟨t, ht, rfl⟩ := List.getElem_of_mem hx
    rw [List.length_take] at ht
    rw [List.getElem_take]
    rw [List.getElem?_eq_getElem (by omega)] at hy
    cases hy
    by_cases e : t = i - 1 - P.length
    · subst e; exact q
    · exact hQ _ _ (List.pairwise_iff_getElem.1 hX t (i - 1 - P.length) (by omega) (by omega) (by omega)) q
theorem hi_all {P X S : List α} {j : Nat} {Q : α → Prop} (hX : Rise key X) (h : Hi (P ++ (X ++ S)) (P.length + X.length) j Q) (hQ : ∀ x y, key x ≤ key y → Q x → Q y) (h1 : P.length ≤ j) (h2 : j ≤ P.length + X.length) : ∀ x ∈ X.drop (j - P.length), Q x := by
  intro x hx
  obtain ⟨t, ht, rfl⟩ := List.getElem_of_mem hx
  rw [List.length_drop] at ht
  rcases h with h | ⟨y, hy, q⟩
  · omega
  · rw [seg_at h1 (by omega), List.getElem?_eq_getElem (by omega)] at hy
    cases hy
    rw [List.getElem_drop]
    by_cases e : t = 0
    · subst e; exact q
    · exact hQ _ _ (List.pairwise_iff_getElem.1 hX (j - P.length) (j - P.length + t) (by omega) (by omega) (by omega)) q
theorem one_right {x : α} {B1 B2 : List α} (h1 : Rise key (B1 ++ B2)) (h2 : ∀ y ∈ B1, key y < key x) (h3 : ∀ y ∈ B2, key x ≤ key y) : Rise key (B1 ++ x :: B2) ∧ SEq key (x :: (B1 ++ B2)) (B1 ++ x :: B2) := by
  obtain ⟨r1, r2, r3⟩ := rise_app.1 h1
  refine ⟨rise_app.2 ⟨r1, List.pairwise_cons.2 ⟨h3, r2⟩, fun y hy z hz => ?_⟩, ?_⟩
  · rcases List.mem_cons.1 hz with rfl | hz
    · have := h2 y hy; omega
    · exact r3 y hy z hz
  · have e1 : x :: (B1 ++ B2) = ([x] ++ B1) ++ B2 := by simp
    have e2 : B1 ++ x :: B2 = (B1 ++ [x]) ++ B2 := by simp
    rw [e1, e2]
    exact SEq.app (seq_swap fun a ha b hb => by have e : a = x := (by simpa using ha); subst e; exact h2 b hb) (.refl B2)
theorem one_left {y : α} {A1 A2 : List α} (h1 : Rise key (A1 ++ A2)) (h2 : ∀ x ∈ A1, key x ≤ key y) (h3 : ∀ x ∈ A2, key y < key x) : Rise key (A1 ++ y :: A2) ∧ SEq key ((A1 ++ A2) ++ [y]) (A1 ++ y :: A2) := by
  obtain ⟨r1, r2, r3⟩ := rise_app.1 h1
  refine ⟨rise_app.2 ⟨r1, List.pairwise_cons.2 ⟨fun x hx => by have := h3 x hx; omega, r2⟩, fun u hu z hz => ?_⟩, ?_⟩
  · rcases List.mem_cons.1 hz with rfl | hz
    · exact h2 u hu
    · exact r3 u hu z hz
  · have e1 : A1 ++ A2 ++ [y] = A1 ++ (A2 ++ [y]) := by simp
    have e2 : A1 ++ y :: A2 = A1 ++ ([y] ++ A2) := by simp
    rw [e1, e2]
    exact SEq.app (.refl A1) (seq_swap fun a ha b hb => by have e : b = y := (by simpa using hb); subst e; exact h3 a ha)
def SymLo (key : α → Int) (D : List α) (p c : Nat) : Prop := ∃ x y, D[c]? = some x ∧ D[p - c]? = some y ∧ key x ≤ key y
def SymHi (key : α → Int) (D : List α) (p c : Nat) : Prop := ∃ x y, D[c]? = some x ∧ D[p - c]? = some y ∧ key y < key x
theorem rise_lt {X : List α} (h : Rise key X) {i j : Nat} (hij : i ≤ j) {x y : α} (hx : X[i]? = some x) (hy : X[j]? = some y) : key x ≤ key y := by
  rcases Nat.lt_or_ge i j with c | c
  · obtain ⟨hi, rfl⟩ := List.getElem?_eq_some_iff.1 hx
    obtain ⟨hj, rfl⟩ := List.getElem?_eq_some_iff.1 hy
    exact List.pairwise_iff_getElem.1 h i j hi hj c
  · obtain rfl : i = j := by omega
    rw [hx] at hy; cases hy; exact Int.le_refl _
theorem sym_cut {P A B S : List α} {a m b mid s : Nat} (ha : P.length = a) (hm : a + A.length = m) (hb : m + B.length = b) (hA : Rise key A) (hB : Rise key B)
    (hs0 : a ≤ s) (hs1 : s ≤ m) (he0 : m ≤ mid + m - s) (he1 : mid + m - s ≤ b) (hsm : s ≤ mid)
    (lo : s = a ∨ mid + m - s = b ∨ SymLo key (P ++ (A ++ (B ++ S))) (mid + m - 1) (s - 1)) (hi : s = m ∨ s = mid ∨ SymHi key (P ++ (A ++ (B ++ S))) (mid + m - 1) s) :
    ∃ A1 A2 B1 B2, A = A1 ++ A2 ∧ B = B1 ++ B2 ∧ a + A1.length = s ∧ m + B1.length = mid + m - s ∧ (∀ x ∈ A1, ∀ y ∈ B2, key x ≤ key y) ∧ (∀ x ∈ A2, ∀ y ∈ B1, key y < key x) := by
  have gA : ∀ i, i < A.length → (P ++ (A ++ (B ++ S)))[a + i]? = A[i]? := by intro i hi; rw [seg_at (by omega) (by omega)]; congr 1; omega
  have gB : ∀ i, i < B.length → (P ++ (A ++ (B ++ S)))[m + i]? = B[i]? := by
    intro i hi
    have e : P ++ (A ++ (B ++ S)) = (P ++ A) ++ (B ++ S) := by simp
    rw [e, seg_at (by simp; omega) (by simp; omega)]; congr 1; simp; omega
  refine ⟨A.take (s - a), A.drop (s - a), B.take (mid - s), B.drop (mid - s), (List.take_append_drop ..).symm, (List.take_append_drop ..).symm, by rw [List.length_take]; omega, by rw [List.length_take]; omega, ?_, ?_⟩
  · intro x hx y hy
    obtain ⟨i, hi, rfl⟩ := List.getElem_of_mem hx
    obtain ⟨j, hj, rfl⟩ := List.getElem_of_mem hy
    rw [List.length_take] at hi
    rw [List.length_drop] at hj
    rw [List.getElem_take, List.getElem_drop]
    rcases lo with c | c | ⟨u, v, h1, h2, h3⟩
    · omega
    · omega
    · have e1 : s - 1 = a + (s - 1 - a) := by omega
      have e2 : mid + m - 1 - (s - 1) = m + (mid - s) := by omega
      rw [e1, gA _ (by omega)] at h1
      rw [e2, gB _ (by omega)] at h2
      have q1 := rise_lt hA (i := i) (j := s - 1 - a) (by omega) (List.getElem?_eq_getElem (by omega)) h1
      have q2 := rise_lt hB (i := mid - s) (j := mid - s + j) (by omega) h2 (List.getElem?_eq_getElem (by omega))
      omega
  · intro x hx y hy
    obtain ⟨i, hi', rfl⟩ := List.getElem_of_mem hx
    obtain ⟨j, hj, rfl⟩ := List.getElem_of_mem hy
    rw [List.length_drop] at hi'
    rw [List.length_take] at hj
    rw [List.getElem_take, List.getElem_drop]
    rcases hi with c | c | ⟨u, v, h1, h2, h3⟩
    · omega
    · omega
    · have e1 : s = a + (s - a) := by omega
      have e2 : mid + m - 1 - s = m + (mid - s - 1) := by omega
      rw [e2, gB _ (by omega)] at h2
      rw [e1, gA _ (by omega)] at h1
      have q1 := rise_lt hA (i := s - a) (j := s - a + i) (by omega) h1 (List.getElem?_eq_getElem (by omega))
      have q2 := rise_lt hB (i := j) (j := mid - s - 1) (by omega) (List.getElem?_eq_getElem (by omega)) h2
      omega
end
section
variable {α : Type} {key : α → Int} {cf : α → α → Int}
theorem sink_rise (hcf : ∀ x y, cf x y < 0 ↔ key x < key y) : ∀ (j : Nat) (A B : List α) (x : α), A.length = j → Rise key A → ∃ A', sink cf j (A ++ x :: B) = A' ++ B ∧ Rise key A' ∧ SEq key (A ++ [x]) A'
  | 0, A, B, x, h, _ => by
    obtain rfl := List.length_eq_zero_iff.1 h
    exact ⟨[x], by simp [sink], List.pairwise_singleton _ _, .refl _⟩
  | j + 1, A, B, x, h, hp => by
    obtain ⟨A0, y, rfl, hj⟩ := snoc_of h
    obtain ⟨hp0, _, hp1⟩ := rise_app.1 hp
    have hy : ((A0 ++ [y]) ++ x :: B)[j]? = some y := by
      rw [List.append_assoc, List.getElem?_append_right (by omega), hj]; simp
    have hx : ((A0 ++ [y]) ++ x :: B)[j + 1]? = some x := by
      rw [List.append_assoc, List.getElem?_append_right (by omega), hj]; simp
    unfold sink
    rw [hy, hx]
    simp only
    by_cases c : cf x y < 0
    · have hs : swp ((A0 ++ [y]) ++ x :: B) j = A0 ++ x :: (y :: B) := by
        unfold swp; rw [hy, hx]
        simp only
        rw [List.append_assoc, List.set_append_right _ _ (by omega), List.set_append_right _ _ (by omega)]
        simp [hj]
      rw [if_pos c, hs]
      obtain ⟨A', h1, h2, h3⟩ := sink_rise hcf j A0 (y :: B) x hj hp0
      have hxy := (hcf _ _).1 c
      refine ⟨A' ++ [y], by rw [h1]; simp, rise_app.2 ⟨h2, List.pairwise_singleton _ _, fun z hz w hw => ?_⟩, ?_⟩
      · have e : w = y := by simpa using hw
        subst e
        rcases List.mem_append.1 (h3.symm.mem hz) with hz | hz
        · exact hp1 z hz _ (by simp)
        · have e : z = x := by simpa using hz
          subst e; omega
      · have e1 : A0 ++ [y] ++ [x] = A0 ++ ([y] ++ [x]) := by simp
        rw [e1]
        refine SEq.trans (SEq.app (.refl A0) (seq_swap (B := [x]) fun a ha b hb => ?_)) ?_
        · have e : a = y := by simpa using ha
          have e2 : b = x := by simpa using hb
          subst e; subst e2; exact hxy
        · have e2 : A0 ++ ([x] ++ [y]) = (A0 ++ [x]) ++ [y] := by simp
          rw [e2]; exact SEq.app h3 (.refl _)
    · rw [if_neg c]
      have hyx : key y ≤ key x := by have := mt (hcf x y).2 c; omega
      refine ⟨A0 ++ [y] ++ [x], by simp, rise_app.2 ⟨hp, List.pairwise_singleton _ _, fun z hz w hw => ?_⟩, .refl _⟩
      have e : w = x := by simpa using hw
      subst e
      rcases List.mem_append.1 hz with hz | hz
      · have := hp1 z hz y (by simp); omega
      · have e : z = y := by simpa using hz
        subst e; exact hyx
theorem isortTo_rise (hcf : ∀ x y, cf x y < 0 ↔ key x < key y) (l : List α) : ∀ i, i < l.length → ∃ A, isortTo cf l (i + 1) = A ++ l.drop (i + 1) ∧ Rise key A ∧ SEq key (l.take (i + 1)) A
  | i, hi => by
    obtain ⟨A, h1, h2, h3⟩ : ∃ A, isortTo cf l i = A ++ l.drop i ∧ Rise key A ∧ SEq key (l.take i) A := by
      cases i with
      | zero => exact ⟨[], rfl, List.Pairwise.nil, .refl _⟩
      | succ i => exact isortTo_rise hcf l i (by omega)
    have hx : l[i]? = some l[i] := List.getElem?_eq_getElem hi
    have hd : l.drop i = l[i] :: l.drop (i + 1) := (List.drop_eq_getElem_cons hi)
    have hA : A.length = i := by rw [← seq_perm h3, List.length_take]; omega
    obtain ⟨A', h4, h5, h6⟩ := sink_rise (B := l.drop (i + 1)) hcf i A l[i] hA h2
    refine ⟨A', ?_, h5, ?_⟩
    · show sink cf i (isortTo cf l i) = _
      rw [h1, hd, h4]
    · rw [take_at hx]
      exact SEq.trans (SEq.app h3 (.refl _)) h6
theorem isort_rise (hcf : ∀ x y, cf x y < 0 ↔ key x < key y) (l : List α) : Rise key (isort cf l) ∧ SEq key l (isort cf l) := by
  cases h : l.length with
  | zero =>
    obtain rfl := List.length_eq_zero_iff.1 h
    exact ⟨List.Pairwise.nil, .refl _⟩
  | succ n =>
    obtain ⟨A, h1, h2, h3⟩ := isortTo_rise hcf l n (by omega)
    have e : isort cf l = A := by
      unfold isort
      rw [h, h1, List.drop_of_length_le (by omega), List.append_nil]
    rw [e]
    rw [List.take_of_length_le (by omega)] at h3
    exact ⟨h2, h3⟩
theorem isort_is (hcf : ∀ x y, cf x y < 0 ↔ key x < key y) {l m : List α} (h1 : Rise key m) (h2 : SEq key l m) : m = isort cf l :=
  rise_unique (h2.symm.trans (isort_rise hcf l).2) h1 (isort_rise hcf l).1
end
end Go.Proofs.YtdepecjjahodjaaDoor
namespace Go.Proofs.YtdepecjjahodjaaDoor
open Go Go.GL
attribute [local irreducible] Ycall GCalls
set_option maxRecDepth 10000
set_option maxHeartbeats 0
section
variable {α : Type} {key : α → Int}
inductive BlkL (key : α → Int) (C : Nat) : List α → List α → Prop where
  | nil : BlkL key C [] []
  | snoc {P0 P X X' : List α} : BlkL key C P0 P → X.length = C → SortR key X X' → BlkL key C (P0 ++ X) (P ++ X')
inductive BT (key : α → Int) (B : Nat) : List α → List α → Prop where
  | tail {X X' : List α} : X.length ≤ B → SortR key X X' → BT key B X X'
  | cons {X X' S S' : List α} : X.length = B → SortR key X X' → BT key B S S' → BT key B (X ++ S) (X' ++ S')
theorem SortR.len {X X' : List α} (h : SortR key X X') : X'.length = X.length := (seq_perm h.2).symm
theorem BlkL.len {C : Nat} {P0 P : List α} (h : BlkL key C P0 P) : P.length = P0.length := by
  induction h with
  | nil => rfl
  | snoc _ _ h ih => rw [List.length_append, List.length_append, ih, h.len]
theorem BT.len {B : Nat} {P0 P : List α} (h : BT key B P0 P) : P.length = P0.length := by
  induction h with
  | tail _ h => exact h.len
  | cons _ h _ ih => rw [List.length_append, List.length_append, ih, h.len]
theorem BlkL.app {C : Nat} {P0 P : List α} (h : BlkL key C P0 P) : ∀ {S0 S : List α}, BT key C S0 S → BT key C (P0 ++ S0) (P ++ S) := by
  induction h with
  | nil => intro S0 S h; exact h
  | snoc _ hx hs ih => intro S0 S h; rw [List.append_assoc, List.append_assoc]; exact ih (.cons hx hs h)
theorem BT.two {B : Nat} {S0 S : List α} (h : BT key B S0 S) (hn : 2 * B ≤ S0.length) (hB : 0 < B) : ∃ X1 X1' X2 X2' R0 R, S0 = X1 ++ (X2 ++ R0) ∧ S = X1' ++ (X2' ++ R) ∧ X1.length = B ∧ X2.length = B ∧ SortR key X1 X1' ∧ SortR key X2 X2' ∧ BT key B R0 R := by
  cases h with
  | tail h1 h2 => omega
  | cons h1 h2 h3 =>
    rename_i X X' T T'
    rw [List.length_append] at hn
    cases h3 with
    | tail h4 h5 => exact ⟨X, X', T, T', [], [], by simp, by simp, h1, by omega, h2, h5, .tail (by simp) ⟨List.Pairwise.nil, .refl _⟩⟩
    | cons h4 h5 h6 =>
      rename_i Y Y' R R'
      exact ⟨X, X', Y, Y', R, R', rfl, rfl, h1, h4, h2, h5, h6⟩
theorem BT.rest {B : Nat} {S0 S : List α} (h : BT key B S0 S) (h1 : B < S0.length) (h2 : S0.length < 2 * B) : ∃ X1 X1' X2 X2', S0 = X1 ++ X2 ∧ S = X1' ++ X2' ∧ X1.length = B ∧ SortR key X1 X1' ∧ SortR key X2 X2' := by
  cases h with
  | tail h3 h4 => omega
  | cons h3 h4 h5 =>
    rename_i X X' T T'
    rw [List.length_append] at h1 h2
    cases h5 with
    | tail h6 h7 => exact ⟨X, X', T, T', rfl, rfl, h3, h4, h7⟩
    | cons h6 h7 h8 => rw [List.length_append] at h2; omega
theorem BT.one {B : Nat} {S0 S : List α} (h : BT key B S0 S) (h1 : S0.length ≤ B) (hB : 0 < B) : SortR key S0 S := by
  induction h with
  | tail _ h => exact h
  | cons h3 h4 h5 ih =>
    rename_i X X' T T'
    rw [List.length_append] at h1
    have hT : T = [] := List.length_eq_zero_iff.1 (by omega)
    subst hT
    have := h5.len
    have hT' : T' = [] := List.length_eq_zero_iff.1 (by simpa using this)
    subst hT'
    simpa using h4
theorem BlkL.mem {C : Nat} {P0 P : List α} (h : BlkL key C P0 P) : ∀ {x : α}, x ∈ P → x ∈ P0 := by
  induction h with
  | nil => intro x hx; exact hx
  | snoc _ _ hs ih =>
    intro x hx
    rcases List.mem_append.1 hx with h | h
    · exact List.mem_append_left _ (ih h)
    · exact List.mem_append_right _ (hs.2.symm.mem h)
theorem BT.mem {B : Nat} {P0 P : List α} (h : BT key B P0 P) : ∀ {x : α}, x ∈ P → x ∈ P0 := by
  induction h with
  | tail _ hs => intro x hx; exact hs.2.symm.mem hx
  | cons _ hs _ ih =>
    intro x hx
    rcases List.mem_append.1 hx with h | h
    · exact List.mem_append_left _ (hs.2.symm.mem h)
    · exact List.mem_append_right _ (ih h)
theorem sort_merge {A0 A B0 B M : List α} (hA : SortR key A0 A) (hB : SortR key B0 B) (hM : Rise key M ∧ SEq key (A ++ B) M) : SortR key (A0 ++ B0) M := ⟨hM.1, (SEq.app hA.2 hB.2).trans hM.2⟩
end
section
variable {α : Type} {key : α → Int}
theorem rise_one (A : List α) : Rise key (A.take 1) := by
  cases A with
  | nil => exact List.Pairwise.nil
  | cons x A => exact List.pairwise_singleton _ _
theorem mem_set2u {L : List α} {i j : Nat} {x y : α} {Q : α → Prop} (h : ∀ z ∈ L, Q z) (hx : Q x) (hy : Q y) : ∀ z ∈ (L.set i x).set j y, Q z := by
  intro z hz
  rcases List.mem_or_eq_of_mem_set hz with hz | rfl
  · rcases List.mem_or_eq_of_mem_set hz with hz | rfl
    · exact h z hz
    · exact hx
  · exact hy
theorem swap_any {Q : α → Prop} {D : List α} {p q : Nat} {x y : α} (h1 : D[p]? = some x) (h2 : D[q]? = some y) : (D.set p y).set q x = swap2 D p q := (swap2_at h1 h2).symm
theorem swapN_mem {D : List α} {a b : Nat} {Q : α → Prop} (h : ∀ x ∈ D, Q x) : ∀ n, ∀ x ∈ swapN D a b n, Q x
  | 0 => h
  | n + 1 => by
    intro x hx
    unfold swapN swap2 at hx
    have ih := swapN_mem (a := a) (b := b) h n
    split at hx
    · rename_i u w hu hw
      rcases List.mem_or_eq_of_mem_set hx with hx | rfl
      · rcases List.mem_or_eq_of_mem_set hx with hx | rfl
        · exact ih x hx
        · exact ih _ (List.mem_of_getElem? hw)
      · exact ih _ (List.mem_of_getElem? hu)
    · exact ih x hx
end
end Go.Proofs.YtdepecjjahodjaaDoor
namespace Go.Proofs.YtdepecjjahodjaaDoor
open Go Go.GL
attribute [local irreducible] Ycall GCalls
set_option maxRecDepth 10000
set_option maxHeartbeats 0
theorem u119 {G0 G : GH} {v fv : Value} {xs : List SRest} {a0 b0 n : Nat} (hrow : Row rRest 91 G0 G v xs) (hb : xs.length ≤ 1000000000) (ha1 : a0 + n ≤ xs.length) (hb1 : b0 + n ≤ xs.length) :
    GCalls Tryd.prog 119 [v, V a0, V b0, V n, fv].toArray G (fun u G' => u = .tuple #[] ∧ Row rRest 91 G0 G' v (swapN xs a0 b0 n) ∧ (∀ b o, G b = some o → notAt v b → G' b = some o) ∧ (G0.le G → G0.le G')) := by
  obtain ⟨a, c, rfl⟩ := hrow.val
  refine enter Tryd.func119 38 #[] rfl Tryd.ntmps119 rfl (by decide +kernel) rfl ?_
  simp (maxDischargeDepth := 9) only [↓gB, gV, gT, reduceIte, reduceCtorEq, Nat.reduceEqDiff, Nat.reduceAdd, Nat.reduceSub, Nat.reduceLeDiff, Nat.reduceLT, Int.reduceEq, Nat.reduceMul]
  focus
    refine Xloop_intro _ _ _ _ _ (fun k f G' => ∃ (i : Nat), k = n - i ∧ (i ≤ n) ∧ (Row rRest 91 G0 G' (.slice a xs.length c) (swapN xs a0 b0 i)) ∧ (∀ b o, G b = some o → notAt (.slice a xs.length c) b → G' b = some o) ∧ (G0.le G → G0.le G') ∧ f 10 = V i ∧ f 0 = Go.Value.slice a xs.length c ∧ f 1 = Go.GL.V ↑a0 ∧ f 2 = Go.GL.V ↑b0 ∧ f 3 = Go.GL.V ↑n) _ ⟨0, rfl, ?_, ?_, ?_, ?_, by simp (maxDischargeDepth := 9) only [↓gB, gV, gT, reduceIte, reduceCtorEq, Nat.reduceEqDiff, Nat.reduceAdd, Nat.reduceSub, Nat.reduceLeDiff, Nat.reduceLT, Int.reduceEq, Nat.reduceMul, and_self]⟩ ?_
    · omega
    · assumption
    · exact fun _ _ h _ => h
    · exact id
    rintro k f G' ⟨i, rfl, hi, hrow, hk, hl, f10, f0, f1, f2, f3⟩
  have hsl := swapN_len xs a0 b0 i
  simp (maxDischargeDepth := 9) only [↓gB, gV, gT, reduceIte, reduceCtorEq, Nat.reduceEqDiff, Nat.reduceAdd, Nat.reduceSub, Nat.reduceLeDiff, Nat.reduceLT, Int.reduceEq, Nat.reduceMul, hk, f10, f0, f1, f2, f3]
  refine Xc_split _ _ _ _ _ (fun c1 => ?_) (fun c1 => ?_)
  · obtain ⟨p, help⟩ : ∃ p, (swapN xs a0 b0 i)[a0 + i]? = some p := ⟨_, List.getElem?_eq_getElem (by omega)⟩
    obtain ⟨q, helq⟩ : ∃ q, (swapN xs a0 b0 i)[b0 + i]? = some q := ⟨_, List.getElem?_eq_getElem (by omega)⟩
    have hs2 : swapN xs a0 b0 (i + 1) = ((swapN xs a0 b0 i).set (a0 + i) q).set (b0 + i) p := swap2_at help helq
    have ea : (a0 : Int) + i = ((a0 + i : Nat) : Int) := (Int.natCast_add ..).symm
    have eb : (b0 : Int) + i = ((b0 + i : Nat) : Int) := (Int.natCast_add ..).symm
    focus
      simp (maxDischargeDepth := 9) only [↓gB, gV, gT, reduceIte, reduceCtorEq, Nat.reduceEqDiff, Nat.reduceAdd, Nat.reduceSub, Nat.reduceLeDiff, Nat.reduceLT, Int.reduceEq, Nat.reduceMul, hk, f10, f0, f1, f2, f3, c1, ea, eb]
      refine Xdraw_intro [0, 1, 2, 3, 4, 5, 6, 7, 8, 9, 10, 11, 12, 13, 14, 15, 16, 17, 18, 19, 20, 21, 22, 23] mixed (by kernel_rfl) (by decide +kernel) ?_
      simp (maxDischargeDepth := 9) only [↓gB, gV, gT, reduceIte, reduceCtorEq, Nat.reduceEqDiff, Nat.reduceAdd, Nat.reduceSub, Nat.reduceLeDiff, Nat.reduceLT, Int.reduceEq, Nat.reduceMul, hk, f10, f0, f1, f2, f3, c1, ea, eb]
      have q1 : Go.IntKind.i64.wrap (↑(b0 + i)) = ↑(b0 + i) := wrap_id (by omega)
      simp (maxDischargeDepth := 9) only [↓gB, gV, gT, reduceIte, reduceCtorEq, Nat.reduceEqDiff, Nat.reduceAdd, Nat.reduceSub, Nat.reduceLeDiff, Nat.reduceLT, Int.reduceEq, Nat.reduceMul, hk, f10, f0, f1, f2, f3, c1, q1, ea, eb]
      obtain ⟨x1, a1, s1, m1, rfl, rfl, e1⟩ := hrow.at (b0 + i) (by omega) 2 rfl
      obtain rfl := el_eq helq m1
      simp (maxDischargeDepth := 9) only [↓gB, gV, gT, reduceIte, reduceCtorEq, Nat.reduceEqDiff, Nat.reduceAdd, Nat.reduceSub, Nat.reduceLeDiff, Nat.reduceLT, Int.reduceEq, Nat.reduceMul, f10, f1, f2, f3, c1, q1, hk, f0, e1, ea, eb]
      refine vguard_intro (by omega) ?_
      have q2 : Go.IntKind.i64.wrap (↑(a0 + i)) = ↑(a0 + i) := wrap_id (by omega)
      simp (maxDischargeDepth := 9) only [↓gB, gV, gT, reduceIte, reduceCtorEq, Nat.reduceEqDiff, Nat.reduceAdd, Nat.reduceSub, Nat.reduceLeDiff, Nat.reduceLT, Int.reduceEq, Nat.reduceMul, f10, f1, f2, f3, c1, q1, hk, f0, e1, q2, ea, eb]
      refine vguard_intro (by omega) ?_
      obtain ⟨x2, s2, m2, rfl, e2⟩ := hrow.at' (a0 + i) (by omega) 2 rfl
      obtain rfl := el_eq help m2
      simp (maxDischargeDepth := 9) only [↓gB, gV, gT, reduceIte, reduceCtorEq, Nat.reduceEqDiff, Nat.reduceAdd, Nat.reduceSub, Nat.reduceLeDiff, Nat.reduceLT, Int.reduceEq, Nat.reduceMul, f10, f1, f2, f3, c1, q1, hk, f0, e1, q2, e2, ea, eb]
      refine vguard_intro (by omega) ?_
      refine Yrow hrow rfl (y := ⟨_, _⟩) (by first | omega | (simp only [List.length_set]; omega)) rfl (fun _ hg => rfl) fun G1 w1 i1 k1 kn1 l1 => ?_
      simp (maxDischargeDepth := 9) only [↓gB, gV, gT, reduceIte, reduceCtorEq, Nat.reduceEqDiff, Nat.reduceAdd, Nat.reduceSub, Nat.reduceLeDiff, Nat.reduceLT, Int.reduceEq, Nat.reduceMul, f10, f1, f2, f3, c1, q1, hk, f0, e1, q2, e2, k1, kn1, ea, eb]
      refine vguard_intro (by omega) ?_
      refine Yrow w1 rfl (y := ⟨_, _⟩) (by first | omega | (simp only [List.length_set]; omega)) rfl (fun _ hg => rfl) fun G2 w2 i2 k2 kn2 l2 => ?_
      simp (maxDischargeDepth := 9) only [↓gB, gV, gT, reduceIte, reduceCtorEq, Nat.reduceEqDiff, Nat.reduceAdd, Nat.reduceSub, Nat.reduceLeDiff, Nat.reduceLT, Int.reduceEq, Nat.reduceMul, f10, f1, f2, f3, c1, q1, hk, f0, e1, q2, e2, k1, kn1, k2, kn2, ea, eb]
      have q3 : Go.IntKind.i64.wrap (↑i + 1) = ↑i + 1 := wrap_id (by omega)
      simp (maxDischargeDepth := 9) only [↓gB, gV, gT, reduceIte, reduceCtorEq, Nat.reduceEqDiff, Nat.reduceAdd, Nat.reduceSub, Nat.reduceLeDiff, Nat.reduceLT, Int.reduceEq, Nat.reduceMul, f10, f1, f2, f3, c1, q1, hk, f0, e1, q2, e2, k1, kn1, k2, kn2, q3, ea, eb]
      rw [N_lp]
      refine ⟨_, ?_, _, sub_refl _, i + 1, rfl, ?_, ?_, ?_, ?_, by simp (maxDischargeDepth := 9) only [↓gB, gV, gT, reduceIte, reduceCtorEq, Nat.reduceEqDiff, Nat.reduceAdd, Nat.reduceSub, Nat.reduceLeDiff, Nat.reduceLT, Int.reduceEq, Nat.reduceMul, f10, f1, f2, f3, c1, q1, hk, f0, e1, q2, e2, k1, kn1, k2, kn2, q3, ea, eb, nat_succ, and_self]⟩
      · omega
      · omega
      · (rw [hs2]; assumption; done)
      · (exact fun b o q1 q2 => k2 b o (k1 b o (hk b o q1 q2) q2) q2; done)
      · (exact fun q => l2 (l1 (hl q)); done)
  · have ei : i = n := by omega
    subst ei
    simp (maxDischargeDepth := 9) only [↓gB, gV, gT, reduceIte, reduceCtorEq, Nat.reduceEqDiff, Nat.reduceAdd, Nat.reduceSub, Nat.reduceLeDiff, Nat.reduceLT, Int.reduceEq, Nat.reduceMul, hk, f10, f0, f1, f2, f3, c1]
    exact Kup_same ⟨rfl, hrow, hk, hl⟩
theorem u110 {G0 G : GH} {v fv : Value} {xs T' : List SRest} {a0 m0 b0 : Nat} (hrow : Row rRest 91 G0 G v xs) (hb : xs.length ≤ 1000000000) (ha : a0 < m0) (hmb : m0 < b0) (h : RotInv T' m0 (m0 - a0) (b0 - m0) xs) :
    GCalls Tryd.prog 110 [v, V a0, V m0, V b0, fv].toArray G (fun u G' => u = .tuple #[] ∧ Row rRest 91 G0 G' v T' ∧ (∀ b o, G b = some o → notAt v b → G' b = some o) ∧ (G0.le G → G0.le G')) := by
  obtain ⟨a, c, rfl⟩ := hrow.val
  have hrl := rot_len h
  refine enter Tryd.func110 58 #[] rfl Tryd.ntmps110 rfl (by decide +kernel) rfl ?_
  have e1 : (m0 : Int) - a0 = ((m0 - a0 : Nat) : Int) := by omega
  have e2 : (b0 : Int) - m0 = ((b0 - m0 : Nat) : Int) := by omega
  simp (maxDischargeDepth := 9) only [↓gB, gV, gT, reduceIte, reduceCtorEq, Nat.reduceEqDiff, Nat.reduceAdd, Nat.reduceSub, Nat.reduceLeDiff, Nat.reduceLT, Int.reduceEq, Nat.reduceMul, e1, e2]
  have q1 : Go.IntKind.i64.wrap (↑(m0 - a0)) = ↑(m0 - a0) := wrap_id (by omega)
  simp (maxDischargeDepth := 9) only [↓gB, gV, gT, reduceIte, reduceCtorEq, Nat.reduceEqDiff, Nat.reduceAdd, Nat.reduceSub, Nat.reduceLeDiff, Nat.reduceLT, Int.reduceEq, Nat.reduceMul, q1, e1, e2]
  have q2 : Go.IntKind.i64.wrap (↑(b0 - m0)) = ↑(b0 - m0) := wrap_id (by omega)
  simp (maxDischargeDepth := 9) only [↓gB, gV, gT, reduceIte, reduceCtorEq, Nat.reduceEqDiff, Nat.reduceAdd, Nat.reduceSub, Nat.reduceLeDiff, Nat.reduceLT, Int.reduceEq, Nat.reduceMul, q1, q2, e1, e2]
  focus
    refine Xloop_intro _ _ _ _ _ (fun k f G' => ∃ (i j : Nat) (D : List SRest), k = i + j ∧ (RotInv T' m0 i j D) ∧ (0 < i) ∧ (0 < j) ∧ (D.length = xs.length) ∧ (Row rRest 91 G0 G' (.slice a xs.length c) D) ∧ (∀ b o, G b = some o → notAt (.slice a xs.length c) b → G' b = some o) ∧ (G0.le G → G0.le G') ∧ f 10 = V i ∧ f 11 = V j ∧ f 0 = Go.Value.slice a xs.length c ∧ f 2 = Go.GL.V ↑m0 ∧ f 4 = fv) _ ⟨m0 - a0, b0 - m0, xs, rfl, ?_, ?_, ?_, ?_, ?_, ?_, ?_, by simp (maxDischargeDepth := 9) only [↓gB, gV, gT, reduceIte, reduceCtorEq, Nat.reduceEqDiff, Nat.reduceAdd, Nat.reduceSub, Nat.reduceLeDiff, Nat.reduceLT, Int.reduceEq, Nat.reduceMul, q1, q2, and_self]⟩ ?_
    · assumption
    · omega
    · omega
    · rfl
    · assumption
    · exact fun _ _ h _ => h
    · exact id
    rintro k f G' ⟨i, j, D, rfl, h, hi, hj, hD, hrow, hk, hl, f10, f11, f0, f2, f4⟩
  have hr := rot_len h
  have em : (m0 : Int) - i = ((m0 - i : Nat) : Int) := by omega
  simp (maxDischargeDepth := 9) only [↓gB, gV, gT, reduceIte, reduceCtorEq, Nat.reduceEqDiff, Nat.reduceAdd, Nat.reduceSub, Nat.reduceLeDiff, Nat.reduceLT, Int.reduceEq, Nat.reduceMul, q1, q2, hk, f10, f11, f0, f2, f4]
  refine Xc_split _ _ _ _ _ (fun c1 => ?_) (fun c1 => ?_)
  · simp (maxDischargeDepth := 9) only [↓gB, gV, gT, reduceIte, reduceCtorEq, Nat.reduceEqDiff, Nat.reduceAdd, Nat.reduceSub, Nat.reduceLeDiff, Nat.reduceLT, Int.reduceEq, Nat.reduceMul, q1, q2, hk, f10, f11, f0, f2, f4, c1]
    refine Xc_split _ _ _ _ _ (fun c2 => ?_) (fun c2 => ?_)
    · simp (maxDischargeDepth := 9) only [↓gB, gV, gT, reduceIte, reduceCtorEq, Nat.reduceEqDiff, Nat.reduceAdd, Nat.reduceSub, Nat.reduceLeDiff, Nat.reduceLT, Int.reduceEq, Nat.reduceMul, q1, q2, hk, f10, f11, f0, f2, f4, c1, c2, em]
      have q3 : Go.IntKind.i64.wrap (↑(m0 - i)) = ↑(m0 - i) := wrap_id (by omega)
      simp (maxDischargeDepth := 9) only [↓gB, gV, gT, reduceIte, reduceCtorEq, Nat.reduceEqDiff, Nat.reduceAdd, Nat.reduceSub, Nat.reduceLeDiff, Nat.reduceLT, Int.reduceEq, Nat.reduceMul, q1, q2, hk, f10, f11, f0, f2, f4, c1, c2, q3, em]
      refine Ycall_intro (md := none) (u119 hrow (by omega) (by omega) (by omega)) ?_
      rintro u G2 ⟨rfl, hrow2, hk2, hl2⟩
      have eij : (i : Int) - j = ((i - j : Nat) : Int) := by omega
      focus
        simp (maxDischargeDepth := 9) only [↓gB, gV, gT, reduceIte, reduceCtorEq, Nat.reduceEqDiff, Nat.reduceAdd, Nat.reduceSub, Nat.reduceLeDiff, Nat.reduceLT, Int.reduceEq, Nat.reduceMul, q1, q2, hk, f10, f11, f0, f2, f4, c1, c2, q3, hk2, eij]
        have q4 : Go.IntKind.i64.wrap (↑(i - j)) = ↑(i - j) := wrap_id (by omega)
        simp (maxDischargeDepth := 9) only [↓gB, gV, gT, reduceIte, reduceCtorEq, Nat.reduceEqDiff, Nat.reduceAdd, Nat.reduceSub, Nat.reduceLeDiff, Nat.reduceLT, Int.reduceEq, Nat.reduceMul, q1, q2, hk, f10, f11, f0, f2, f4, c1, c2, q3, hk2, q4, eij]
        rw [N_lp]
        refine ⟨_, ?_, _, sub_refl _, i - j, j, swapN D (m0 - i) m0 j, rfl, ?_, ?_, ?_, ?_, ?_, ?_, ?_, by simp (maxDischargeDepth := 9) only [↓gB, gV, gT, reduceIte, reduceCtorEq, Nat.reduceEqDiff, Nat.reduceAdd, Nat.reduceSub, Nat.reduceLeDiff, Nat.reduceLT, Int.reduceEq, Nat.reduceMul, q1, q2, hk, f10, f11, f0, f2, f4, c1, c2, q3, hk2, q4, eij, nat_succ, and_self]⟩
        · omega
        · (exact rot_gt h (by omega); done)
        · omega
        · assumption
        · ((rw [swapN_len]; exact hD); done)
        · assumption
        · (exact fun b o q1 q2 => hk2 b o (hk b o q1 q2) q2; done)
        · (exact fun q => hl2 (hl q); done)
    · have emj : (m0 : Int) + j = ((m0 + j : Nat) : Int) := by omega
      have emi : ((m0 + j : Nat) : Int) - i = ((m0 + j - i : Nat) : Int) := by omega
      simp (maxDischargeDepth := 9) only [↓gB, gV, gT, reduceIte, reduceCtorEq, Nat.reduceEqDiff, Nat.reduceAdd, Nat.reduceSub, Nat.reduceLeDiff, Nat.reduceLT, Int.reduceEq, Nat.reduceMul, q1, q2, hk, f10, f11, f0, f2, f4, c1, c2, em, emj, emi]
      have q3 : Go.IntKind.i64.wrap (↑(m0 - i)) = ↑(m0 - i) := wrap_id (by omega)
      simp (maxDischargeDepth := 9) only [↓gB, gV, gT, reduceIte, reduceCtorEq, Nat.reduceEqDiff, Nat.reduceAdd, Nat.reduceSub, Nat.reduceLeDiff, Nat.reduceLT, Int.reduceEq, Nat.reduceMul, q1, q2, hk, f10, f11, f0, f2, f4, c1, c2, q3, em, emj, emi]
      have q4 : Go.IntKind.i64.wrap (↑(m0 + j)) = ↑(m0 + j) := wrap_id (by omega)
      simp (maxDischargeDepth := 9) only [↓gB, gV, gT, reduceIte, reduceCtorEq, Nat.reduceEqDiff, Nat.reduceAdd, Nat.reduceSub, Nat.reduceLeDiff, Nat.reduceLT, Int.reduceEq, Nat.reduceMul, q1, q2, hk, f10, f11, f0, f2, f4, c1, c2, q3, q4, em, emj, emi]
      have q5 : Go.IntKind.i64.wrap (↑(m0 + j - i)) = ↑(m0 + j - i) := wrap_id (by omega)
      simp (maxDischargeDepth := 9) only [↓gB, gV, gT, reduceIte, reduceCtorEq, Nat.reduceEqDiff, Nat.reduceAdd, Nat.reduceSub, Nat.reduceLeDiff, Nat.reduceLT, Int.reduceEq, Nat.reduceMul, q1, q2, hk, f10, f11, f0, f2, f4, c1, c2, q3, q4, q5, em, emj, emi]
      refine Ycall_intro (md := none) (u119 hrow (by omega) (by omega) (by omega)) ?_
      rintro u G2 ⟨rfl, hrow2, hk2, hl2⟩
      have eij : (j : Int) - i = ((j - i : Nat) : Int) := by omega
      focus
        simp (maxDischargeDepth := 9) only [↓gB, gV, gT, reduceIte, reduceCtorEq, Nat.reduceEqDiff, Nat.reduceAdd, Nat.reduceSub, Nat.reduceLeDiff, Nat.reduceLT, Int.reduceEq, Nat.reduceMul, q1, q2, hk, f10, f11, f0, f2, f4, c1, c2, q3, q4, q5, hk2, eij]
        have q6 : Go.IntKind.i64.wrap (↑(j - i)) = ↑(j - i) := wrap_id (by omega)
        simp (maxDischargeDepth := 9) only [↓gB, gV, gT, reduceIte, reduceCtorEq, Nat.reduceEqDiff, Nat.reduceAdd, Nat.reduceSub, Nat.reduceLeDiff, Nat.reduceLT, Int.reduceEq, Nat.reduceMul, q1, q2, hk, f10, f11, f0, f2, f4, c1, c2, q3, q4, q5, hk2, q6, eij]
        rw [N_lp]
        refine ⟨_, ?_, _, sub_refl _, i, j - i, swapN D (m0 - i) (m0 + j - i) i, rfl, ?_, ?_, ?_, ?_, ?_, ?_, ?_, by simp (maxDischargeDepth := 9) only [↓gB, gV, gT, reduceIte, reduceCtorEq, Nat.reduceEqDiff, Nat.reduceAdd, Nat.reduceSub, Nat.reduceLeDiff, Nat.reduceLT, Int.reduceEq, Nat.reduceMul, q1, q2, hk, f10, f11, f0, f2, f4, c1, c2, q3, q4, q5, hk2, q6, eij, nat_succ, and_self]⟩
        · omega
        · (exact rot_lt h (by omega); done)
        · assumption
        · omega
        · ((rw [swapN_len]; exact hD); done)
        · assumption
        · (exact fun b o q1 q2 => hk2 b o (hk b o q1 q2) q2; done)
        · (exact fun q => hl2 (hl q); done)
  · have eij : i = j := by omega
    subst eij
    simp (maxDischargeDepth := 9) only [↓gB, gV, gT, reduceIte, reduceCtorEq, Nat.reduceEqDiff, Nat.reduceAdd, Nat.reduceSub, Nat.reduceLeDiff, Nat.reduceLT, Int.reduceEq, Nat.reduceMul, q1, q2, hk, f10, f0, f2, f4, f11, c1, em]
    have q3 : Go.IntKind.i64.wrap (↑(m0 - i)) = ↑(m0 - i) := wrap_id (by omega)
    simp (maxDischargeDepth := 9) only [↓gB, gV, gT, reduceIte, reduceCtorEq, Nat.reduceEqDiff, Nat.reduceAdd, Nat.reduceSub, Nat.reduceLeDiff, Nat.reduceLT, Int.reduceEq, Nat.reduceMul, q1, q2, hk, f10, f0, f2, f4, f11, c1, q3, em]
    refine Ycall_intro (md := none) (u119 hrow (by omega) (by omega) (by omega)) ?_
    rintro u G2 ⟨rfl, hrow2, hk2, hl2⟩
    rw [rot_eq h] at hrow2
    simp (maxDischargeDepth := 9) only [↓gB, gV, gT, reduceIte, reduceCtorEq, Nat.reduceEqDiff, Nat.reduceAdd, Nat.reduceSub, Nat.reduceLeDiff, Nat.reduceLT, Int.reduceEq, Nat.reduceMul, q1, q2, hk, f10, f0, f2, f4, f11, c1, q3, hk2]
    exact Kup_same ⟨rfl, hrow2, fun b o q1 q2 => hk2 b o (hk b o q1 q2) q2, fun q => hl2 (hl q)⟩
theorem u92 {cf : SRest → SRest → Int} {key : SRest → Int} {Q : SRest → Prop} {g : Nat} {fa fb : List Value} (hg : GL.Enters Tryd.prog g) (hcf : ∀ x y, cf x y < 0 ↔ key x < key y) {G0 G : GH} {v : Value} {P' A S' : List SRest} {a0 b0 : Nat} (hrow : Row rRest 91 G0 G v (P' ++ (A ++ S'))) (hP : P'.length = a0) (hA : a0 + A.length = b0) (hlen : (P' ++ (A ++ S')).length ≤ 1000000000) (hQ : ∀ x ∈ P' ++ (A ++ S'), Q x) (hf : ∀ (G' : GH), (∀ b o, G b = some o → notAt v b → G' b = some o) → ∀ x y, Q x → Q y → Pure Tryd.prog G' g (fa ++ [.agg #[V x.i, .int .u64 x.left], .agg #[V y.i, .int .u64 y.left]] ++ fb) (V (cf x y))) :
    GCalls Tryd.prog 92 [v, V a0, V b0, .func (.func g) fa.toArray fb.toArray].toArray G (fun u G' => u = .tuple #[] ∧ ∃ M, Row rRest 91 G0 G' v (P' ++ (M ++ S')) ∧ SortR key A M ∧ (∀ b o, G b = some o → notAt v b → G' b = some o) ∧ (G0.le G → G0.le G')) := by
  have hg' := eq_true hg
  obtain ⟨xs, hX⟩ : ∃ xs, xs = P' ++ (A ++ S') := ⟨_, rfl⟩
  rw [← hX] at hrow hlen hQ
  have hxl : xs.length = P'.length + (A.length + S'.length) := by rw [hX]; simp
  obtain ⟨a, c, rfl⟩ := hrow.val
  refine enter Tryd.func92 53 #[] rfl Tryd.ntmps92 rfl (by decide +kernel) rfl ?_
  simp (maxDischargeDepth := 9) only [↓gB, gV, gT, reduceIte, reduceCtorEq, Nat.reduceEqDiff, Nat.reduceAdd, Nat.reduceSub, Nat.reduceLeDiff, Nat.reduceLT, Int.reduceEq, Nat.reduceMul]
  have q1 : Go.IntKind.i64.wrap (↑a0 + 1) = ↑a0 + 1 := wrap_id (by omega)
  simp (maxDischargeDepth := 9) only [↓gB, gV, gT, reduceIte, reduceCtorEq, Nat.reduceEqDiff, Nat.reduceAdd, Nat.reduceSub, Nat.reduceLeDiff, Nat.reduceLT, Int.reduceEq, Nat.reduceMul, q1]
  have ea1 : (a0 : Int) + 1 = ((a0 + 1 : Nat) : Int) := by omega
  have et1 : a0 + 1 - a0 = 1 := by omega
  focus
    refine Xloop_intro _ _ _ _ _ (fun k f G' => ∃ (i : Nat) (D M : List SRest), k = b0 - i ∧ (a0 + 1 ≤ i) ∧ (i ≤ b0 ∨ i = a0 + 1) ∧ (D = P' ++ (M ++ (A.drop (i - a0) ++ S'))) ∧ (SortR key (A.take (i - a0)) M) ∧ (∀ x ∈ D, Q x) ∧ (D.length = xs.length) ∧ (Row rRest 91 G0 G' (.slice a xs.length c) D) ∧ (∀ b o, G b = some o → notAt (.slice a xs.length c) b → G' b = some o) ∧ (G0.le G → G0.le G') ∧ f 8 = V i ∧ f 0 = Go.Value.slice a xs.length c ∧ f 1 = Go.GL.V ↑a0 ∧ f 2 = Go.GL.V ↑b0 ∧ f 3 = Go.Value.func (Go.Fn.func g) fa.toArray fb.toArray) _ ⟨a0 + 1, xs, A.take 1, rfl, ?_, ?_, ?_, ?_, ?_, ?_, ?_, ?_, ?_, by simp (maxDischargeDepth := 9) only [↓gB, gV, gT, reduceIte, reduceCtorEq, Nat.reduceEqDiff, Nat.reduceAdd, Nat.reduceSub, Nat.reduceLeDiff, Nat.reduceLT, Int.reduceEq, Nat.reduceMul, q1, ea1, and_self]⟩ ?_
    · omega
    · omega
    · ((rw [et1, ← List.append_assoc (A.take 1), List.take_append_drop]; exact hX); done)
    · ((rw [et1]; exact ⟨rise_one A, .refl _⟩); done)
    · assumption
    · rfl
    · assumption
    · exact fun _ _ h _ => h
    · exact id
    rintro k f G' ⟨i, D, M, rfl, hi, hi2, hD, hM, hQD, hDl, hrow, hk, hl, f8, f0, f1, f2, f3⟩
  simp (maxDischargeDepth := 9) only [↓gB, gV, gT, reduceIte, reduceCtorEq, Nat.reduceEqDiff, Nat.reduceAdd, Nat.reduceSub, Nat.reduceLeDiff, Nat.reduceLT, Int.reduceEq, Nat.reduceMul, q1, hk, f8, f0, f1, f2, f3]
  refine Xc_split _ _ _ _ _ (fun c1 => ?_) (fun c1 => ?_)
  · obtain ⟨x0, hx0⟩ : ∃ x0, A[i - a0]? = some x0 := ⟨_, List.getElem?_eq_getElem (by omega)⟩
    have hMl := hM.len
    rw [List.length_take] at hMl
    have hdr := drop_at hx0
    have htk := take_at hx0
    have hst : InsInv key P' x0 M (A.drop (i - a0 + 1) ++ S') D i := by
      have := ins_start (key := key) (P := P') (A := M) (S := A.drop (i - a0 + 1) ++ S') (x := x0) (j := i) (by omega)
      rw [hD, hdr]; exact this
    simp (maxDischargeDepth := 9) only [↓gB, gV, gT, reduceIte, reduceCtorEq, Nat.reduceEqDiff, Nat.reduceAdd, Nat.reduceSub, Nat.reduceLeDiff, Nat.reduceLT, Int.reduceEq, Nat.reduceMul, q1, hk, f8, f0, f1, f2, f3, c1]
    focus
      refine Xloop_intro _ _ _ _ _ (fun k f G' => ∃ (j : Nat) (D : List SRest), k = j - a0 ∧ (a0 ≤ j ∧ j ≤ i) ∧ (InsInv key P' x0 M (A.drop (i - a0 + 1) ++ S') D j) ∧ (∀ x ∈ D, Q x) ∧ (D.length = xs.length) ∧ (Row rRest 91 G0 G' (.slice a xs.length c) D) ∧ (∀ b o, G b = some o → notAt (.slice a xs.length c) b → G' b = some o) ∧ (G0.le G → G0.le G') ∧ f 9 = V j ∧ f 0 = Go.Value.slice a xs.length c ∧ f 1 = Go.GL.V ↑a0 ∧ f 2 = Go.GL.V ↑b0 ∧ f 3 = Go.Value.func (Go.Fn.func g) fa.toArray fb.toArray ∧ f 8 = Go.GL.V ↑i) _ ⟨i, D, rfl, ?_, ?_, ?_, ?_, ?_, ?_, ?_, by simp (maxDischargeDepth := 9) only [↓gB, gV, gT, reduceIte, reduceCtorEq, Nat.reduceEqDiff, Nat.reduceAdd, Nat.reduceSub, Nat.reduceLeDiff, Nat.reduceLT, Int.reduceEq, Nat.reduceMul, q1, hk, f8, f0, f1, f2, f3, c1, and_self]⟩ ?_
      · omega
      · assumption
      · assumption
      · assumption
      · assumption
      · assumption
      · assumption
      rintro k f G' ⟨j, D, rfl, hj, h, hQD, hDl, hrow, hk, hl, f9, f0, f1, f2, f3, f8⟩
    by_cases c2 : (a0 : Int) < j
    · obtain ⟨p, help⟩ : ∃ p, D[j]? = some p := ⟨_, List.getElem?_eq_getElem (by omega)⟩
      obtain ⟨q, helq⟩ : ∃ q, D[j - 1]? = some q := ⟨_, List.getElem?_eq_getElem (by omega)⟩
      have hQp := hQD p (List.mem_of_getElem? help)
      have hQq := hQD q (List.mem_of_getElem? helq)
      simp (maxDischargeDepth := 9) only [↓gB, gV, gT, reduceIte, reduceCtorEq, Nat.reduceEqDiff, Nat.reduceAdd, Nat.reduceSub, Nat.reduceLeDiff, Nat.reduceLT, Int.reduceEq, Nat.reduceMul, q1, hk, f8, f0, f1, f2, f3, c1, hk, f9, f0, f1, f2, f3, f8, c2, hg']
      refine Xdraw_intro [0, 1, 2, 3, 4, 5, 6, 7, 8, 9, 10, 11, 12, 13, 14, 15, 16] mixed (by kernel_rfl) (by decide +kernel) ?_
      simp (maxDischargeDepth := 9) only [↓gB, gV, gT, reduceIte, reduceCtorEq, Nat.reduceEqDiff, Nat.reduceAdd, Nat.reduceSub, Nat.reduceLeDiff, Nat.reduceLT, Int.reduceEq, Nat.reduceMul, q1, hk, f8, f0, f1, f2, f3, c1, hk, f9, f0, f1, f2, f3, f8, c2, hg']
      obtain ⟨x1, a1, s1, m1, rfl, rfl, e1⟩ := hrow.at (j) (by omega) 2 rfl
      obtain rfl := el_eq help m1
      simp (maxDischargeDepth := 9) only [↓gB, gV, gT, reduceIte, reduceCtorEq, Nat.reduceEqDiff, Nat.reduceAdd, Nat.reduceSub, Nat.reduceLeDiff, Nat.reduceLT, Int.reduceEq, Nat.reduceMul, q1, f8, f1, f2, f3, c1, f9, f1, f2, f3, f8, c2, hk, f0, hk, f0, e1, hg']
      refine vguard_intro (by omega) ?_
      have q2 : Go.IntKind.i64.wrap (↑j - 1) = ↑j - 1 := wrap_id (by omega)
      simp (maxDischargeDepth := 9) only [↓gB, gV, gT, reduceIte, reduceCtorEq, Nat.reduceEqDiff, Nat.reduceAdd, Nat.reduceSub, Nat.reduceLeDiff, Nat.reduceLT, Int.reduceEq, Nat.reduceMul, q1, f8, f1, f2, f3, c1, f9, f1, f2, f3, f8, c2, hk, f0, hk, f0, e1, q2, hg']
      refine vguard_intro (by omega) ?_
      obtain ⟨x2, s2, m2, rfl, e2⟩ := hrow.at' (j - 1) (by omega) 2 rfl
      obtain rfl := el_eq helq m2
      simp (maxDischargeDepth := 9) only [↓gB, gV, gT, reduceIte, reduceCtorEq, Nat.reduceEqDiff, Nat.reduceAdd, Nat.reduceSub, Nat.reduceLeDiff, Nat.reduceLT, Int.reduceEq, Nat.reduceMul, q1, f8, f1, f2, f3, c1, f9, f1, f2, f3, f8, c2, hk, f0, hk, f0, e1, q2, e2, hg']
      refine Ycp (hf _ hk p q hQp hQq) ?_
      by_cases c3 : cf p q < 0
      · have hjc : ((j - 1 : Nat) : Int) = (j : Int) - 1 := by omega
        have hst2 := ins_step h (by omega) help helq hM.1 ((hcf _ _).1 c3)
        focus
          simp (maxDischargeDepth := 9) only [↓gB, gV, gT, reduceIte, reduceCtorEq, Nat.reduceEqDiff, Nat.reduceAdd, Nat.reduceSub, Nat.reduceLeDiff, Nat.reduceLT, Int.reduceEq, Nat.reduceMul, q1, f8, f1, f2, f3, c1, f9, f1, f2, f3, f8, c2, hk, f0, hk, f0, e1, q2, e2, c3, hjc]
          refine Xdraw_intro [0, 1, 2, 3, 4, 5, 6, 7, 8, 9, 10, 11, 12, 13, 14, 15, 16, 17] mixed (by kernel_rfl) (by decide +kernel) ?_
          simp (maxDischargeDepth := 9) only [↓gB, gV, gT, reduceIte, reduceCtorEq, Nat.reduceEqDiff, Nat.reduceAdd, Nat.reduceSub, Nat.reduceLeDiff, Nat.reduceLT, Int.reduceEq, Nat.reduceMul, q1, f8, f1, f2, f3, c1, f9, f1, f2, f3, f8, c2, hk, f0, hk, f0, e1, q2, e2, c3, hjc]
          refine vguard_intro (by omega) ?_
          refine vguard_intro (by omega) ?_
          refine vguard_intro (by omega) ?_
          refine Yrow hrow rfl (y := ⟨_, _⟩) (by first | omega | (simp only [List.length_set]; omega)) rfl (fun _ hg => rfl) fun G1 w1 i1 k1 kn1 l1 => ?_
          simp (maxDischargeDepth := 9) only [↓gB, gV, gT, reduceIte, reduceCtorEq, Nat.reduceEqDiff, Nat.reduceAdd, Nat.reduceSub, Nat.reduceLeDiff, Nat.reduceLT, Int.reduceEq, Nat.reduceMul, q1, f8, f1, f2, f3, c1, f9, f1, f2, f3, f8, c2, hk, f0, hk, f0, e1, q2, e2, c3, k1, kn1, hjc]
          refine vguard_intro (by omega) ?_
          refine Yrow w1 rfl (y := ⟨_, _⟩) (by first | omega | (simp only [List.length_set]; omega)) rfl (fun _ hg => rfl) fun G2 w2 i2 k2 kn2 l2 => ?_
          simp (maxDischargeDepth := 9) only [↓gB, gV, gT, reduceIte, reduceCtorEq, Nat.reduceEqDiff, Nat.reduceAdd, Nat.reduceSub, Nat.reduceLeDiff, Nat.reduceLT, Int.reduceEq, Nat.reduceMul, q1, f8, f1, f2, f3, c1, f9, f1, f2, f3, f8, c2, hk, f0, hk, f0, e1, q2, e2, c3, k1, kn1, k2, kn2, hjc]
          rw [N_lp]
          refine ⟨_, ?_, _, sub_refl _, j - 1, (D.set j q).set (j - 1) p, rfl, ?_, ?_, ?_, ?_, ?_, ?_, ?_, by simp (maxDischargeDepth := 9) only [↓gB, gV, gT, reduceIte, reduceCtorEq, Nat.reduceEqDiff, Nat.reduceAdd, Nat.reduceSub, Nat.reduceLeDiff, Nat.reduceLT, Int.reduceEq, Nat.reduceMul, q1, f8, f1, f2, f3, c1, f9, f1, f2, f3, f8, c2, hk, f0, hk, f0, e1, q2, e2, c3, k1, kn1, k2, kn2, hjc, nat_succ, and_self]⟩
          · omega
          · omega
          · assumption
          · (exact mem_set2u hQD hQq hQp; done)
          · (simp [hDl]; done)
          · assumption
          · (exact fun b o q1 q2 => k2 b o (k1 b o (hk b o q1 q2) q2) q2; done)
          · (exact fun q => l2 (l1 (hl q)); done)
      · obtain ⟨M', hM1, hM2, hM3⟩ := ins_done h hM.1 (.inr ⟨p, q, help, helq, by omega, mt (hcf _ _).2 c3⟩)
        focus
          simp (maxDischargeDepth := 9) only [↓gB, gV, gT, reduceIte, reduceCtorEq, Nat.reduceEqDiff, Nat.reduceAdd, Nat.reduceSub, Nat.reduceLeDiff, Nat.reduceLT, Int.reduceEq, Nat.reduceMul, q1, f8, f1, f2, f3, c1, f9, f1, f2, f3, f8, c2, hk, f0, hk, f0, e1, q2, e2, c3]
          have q3 : Go.IntKind.i64.wrap (↑i + 1) = ↑i + 1 := wrap_id (by omega)
          simp (maxDischargeDepth := 9) only [↓gB, gV, gT, reduceIte, reduceCtorEq, Nat.reduceEqDiff, Nat.reduceAdd, Nat.reduceSub, Nat.reduceLeDiff, Nat.reduceLT, Int.reduceEq, Nat.reduceMul, q1, f8, f1, f2, f3, c1, f9, f1, f2, f3, f8, c2, hk, f0, hk, f0, e1, q2, e2, c3, q3]
          rw [N_lp]
          refine ⟨_, ?_, _, sub_refl _, i + 1, D, M', rfl, ?_, ?_, ?_, ?_, ?_, ?_, ?_, ?_, ?_, by simp (maxDischargeDepth := 9) only [↓gB, gV, gT, reduceIte, reduceCtorEq, Nat.reduceEqDiff, Nat.reduceAdd, Nat.reduceSub, Nat.reduceLeDiff, Nat.reduceLT, Int.reduceEq, Nat.reduceMul, q1, f8, f1, f2, f3, c1, f9, f1, f2, f3, f8, c2, hk, f0, hk, f0, e1, q2, e2, c3, q3, nat_succ, and_self]⟩
          · omega
          · omega
          · omega
          · ((rw [show i + 1 - a0 = i - a0 + 1 by omega]; exact hM1); done)
          · ((rw [show i + 1 - a0 = i - a0 + 1 by omega, htk]; exact ⟨hM2, (SEq.app hM.2 (.refl _)).trans hM3⟩); done)
          · assumption
          · assumption
          · assumption
          · assumption
          · assumption
    · obtain ⟨M', hM1, hM2, hM3⟩ := ins_done h hM.1 (.inl (by omega))
      focus
        simp (maxDischargeDepth := 9) only [↓gB, gV, gT, reduceIte, reduceCtorEq, Nat.reduceEqDiff, Nat.reduceAdd, Nat.reduceSub, Nat.reduceLeDiff, Nat.reduceLT, Int.reduceEq, Nat.reduceMul, q1, hk, f8, f0, f1, f2, f3, c1, hk, f9, f0, f1, f2, f3, f8, c2]
        refine Xdraw_intro [0, 1, 2, 3, 4, 5, 6, 7, 8, 9, 10, 11, 12, 13, 14, 15, 16] mixed (by kernel_rfl) (by decide +kernel) ?_
        simp (maxDischargeDepth := 9) only [↓gB, gV, gT, reduceIte, reduceCtorEq, Nat.reduceEqDiff, Nat.reduceAdd, Nat.reduceSub, Nat.reduceLeDiff, Nat.reduceLT, Int.reduceEq, Nat.reduceMul, q1, hk, f8, f0, f1, f2, f3, c1, hk, f9, f0, f1, f2, f3, f8, c2]
        have q2 : Go.IntKind.i64.wrap (↑i + 1) = ↑i + 1 := wrap_id (by omega)
        simp (maxDischargeDepth := 9) only [↓gB, gV, gT, reduceIte, reduceCtorEq, Nat.reduceEqDiff, Nat.reduceAdd, Nat.reduceSub, Nat.reduceLeDiff, Nat.reduceLT, Int.reduceEq, Nat.reduceMul, q1, hk, f8, f0, f1, f2, f3, c1, hk, f9, f0, f1, f2, f3, f8, c2, q2]
        rw [N_lp]
        refine ⟨_, ?_, _, sub_refl _, i + 1, D, M', rfl, ?_, ?_, ?_, ?_, ?_, ?_, ?_, ?_, ?_, by simp (maxDischargeDepth := 9) only [↓gB, gV, gT, reduceIte, reduceCtorEq, Nat.reduceEqDiff, Nat.reduceAdd, Nat.reduceSub, Nat.reduceLeDiff, Nat.reduceLT, Int.reduceEq, Nat.reduceMul, q1, hk, f8, f0, f1, f2, f3, c1, hk, f9, f0, f1, f2, f3, f8, c2, q2, nat_succ, and_self]⟩
        · omega
        · omega
        · omega
        · ((rw [show i + 1 - a0 = i - a0 + 1 by omega]; exact hM1); done)
        · ((rw [show i + 1 - a0 = i - a0 + 1 by omega, htk]; exact ⟨hM2, (SEq.app hM.2 (.refl _)).trans hM3⟩); done)
        · assumption
        · assumption
        · assumption
        · assumption
        · assumption
  · have e1 : A.drop (i - a0) = [] := List.drop_eq_nil_of_le (by omega)
    have e2 : A.take (i - a0) = A := List.take_of_length_le (by omega)
    rw [e1] at hD
    rw [e2] at hM
    rw [hD] at hrow
    simp (maxDischargeDepth := 9) only [↓gB, gV, gT, reduceIte, reduceCtorEq, Nat.reduceEqDiff, Nat.reduceAdd, Nat.reduceSub, Nat.reduceLeDiff, Nat.reduceLT, Int.reduceEq, Nat.reduceMul, q1, hk, f8, f0, f1, f2, f3, c1]
    exact Kup_same ⟨rfl, M, by simpa using hrow, hM, hk, hl⟩
end Go.Proofs.YtdepecjjahodjaaDoor
namespace Go.Proofs.YtdepecjjahodjaaDoor
open Go Go.GL
attribute [local irreducible] Ycall GCalls
set_option maxRecDepth 10000
set_option maxHeartbeats 0
theorem u93 {cf : SRest → SRest → Int} {key : SRest → Int} {Q : SRest → Prop} {g : Nat} {fa fb : List Value} (hg : GL.Enters Tryd.prog g) (hcf : ∀ x y, cf x y < 0 ↔ key x < key y) : ∀ (N : Nat) {G0 G : GH} {v : Value} {P' A B S' : List SRest} {a0 m0 b0 : Nat}, b0 - a0 ≤ N → Row rRest 91 G0 G v (P' ++ (A ++ (B ++ S'))) → P'.length = a0 → a0 + A.length = m0 → m0 + B.length = b0 → 0 < A.length → 0 < B.length → (P' ++ (A ++ (B ++ S'))).length ≤ 1000000000 → Rise key A → Rise key B → (∀ x ∈ P' ++ (A ++ (B ++ S')), Q x) → (∀ (G' : GH), (∀ b o, G b = some o → notAt v b → G' b = some o) → ∀ x y, Q x → Q y → Pure Tryd.prog G' g (fa ++ [.agg #[V x.i, .int .u64 x.left], .agg #[V y.i, .int .u64 y.left]] ++ fb) (V (cf x y))) →
    GCalls Tryd.prog 93 [v, V a0, V m0, V b0, .func (.func g) fa.toArray fb.toArray].toArray G (fun u G' => u = .tuple #[] ∧ ∃ M, Row rRest 91 G0 G' v (P' ++ (M ++ S')) ∧ (Rise key M ∧ SEq key (A ++ B) M) ∧ (∀ b o, G b = some o → notAt v b → G' b = some o) ∧ (G0.le G → G0.le G')) := by
  intro N
  induction N with
  | zero => intro G0 G v P' A B S' a0 m0 b0 hN _ h1 h2 h3 h4 h5; omega
  | succ N ih =>
  intro G0 G v P' A B S' a0 m0 b0 hN hrow hP hA hB hA0 hB0 hlen rA rB hQ hf
  have hg' := eq_true hg
  obtain ⟨xs, hX⟩ : ∃ xs, xs = P' ++ (A ++ (B ++ S')) := ⟨_, rfl⟩
  rw [← hX] at hrow hlen hQ
  have hxl : xs.length = P'.length + (A.length + (B.length + S'.length)) := by rw [hX]; simp
  obtain ⟨a, c, rfl⟩ := hrow.val
  refine enter Tryd.func93 220 #[] rfl Tryd.ntmps93 rfl (by decide +kernel) rfl ?_
  simp (maxDischargeDepth := 9) only [↓gB, gV, gT, reduceIte, reduceCtorEq, Nat.reduceEqDiff, Nat.reduceAdd, Nat.reduceSub, Nat.reduceLeDiff, Nat.reduceLT, Int.reduceEq, Nat.reduceMul]
  have q1 : Go.IntKind.i64.wrap (↑m0 - ↑a0) = ↑m0 - ↑a0 := wrap_id (by omega)
  simp (maxDischargeDepth := 9) only [↓gB, gV, gT, reduceIte, reduceCtorEq, Nat.reduceEqDiff, Nat.reduceAdd, Nat.reduceSub, Nat.reduceLeDiff, Nat.reduceLT, Int.reduceEq, Nat.reduceMul, q1]
  refine Xc_split _ _ _ _ _ (fun c1 => ?_) (fun c1 => ?_)
  · obtain ⟨x0, rfl⟩ : ∃ x0, A = [x0] := List.length_eq_one_iff.1 (by omega)
    have hX2 : xs = (P' ++ [x0]) ++ (B ++ S') := by rw [hX]; simp
    have hPx : (P' ++ [x0]).length = m0 := by simp; simp at hA; omega
    have helx : xs[a0]? = some x0 := by rw [hX]; exact at_app hP
    have hQx := hQ x0 (List.mem_of_getElem? helx)
    simp (maxDischargeDepth := 9) only [↓gB, gV, gT, reduceIte, reduceCtorEq, Nat.reduceEqDiff, Nat.reduceAdd, Nat.reduceSub, Nat.reduceLeDiff, Nat.reduceLT, Int.reduceEq, Nat.reduceMul, q1, c1]
    focus
      refine Xloop_intro _ _ _ _ _ (fun k f G' => ∃ (i j : Nat), k = j - i ∧ (m0 ≤ i) ∧ (i ≤ j) ∧ (j ≤ b0) ∧ (Lo xs m0 i (fun y => key y < key x0)) ∧ (Hi xs b0 j (fun y => key x0 ≤ key y)) ∧ (Row rRest 91 G0 G' (.slice a xs.length c) xs) ∧ (∀ b o, G b = some o → notAt (.slice a xs.length c) b → G' b = some o) ∧ (G0.le G → G0.le G') ∧ f 10 = V i ∧ f 11 = V j ∧ f 0 = Go.Value.slice a xs.length c ∧ f 1 = Go.GL.V ↑a0 ∧ f 4 = Go.Value.func (Go.Fn.func g) fa.toArray fb.toArray) _ ⟨m0, b0, rfl, ?_, ?_, ?_, ?_, ?_, ?_, ?_, ?_, by simp (maxDischargeDepth := 9) only [↓gB, gV, gT, reduceIte, reduceCtorEq, Nat.reduceEqDiff, Nat.reduceAdd, Nat.reduceSub, Nat.reduceLeDiff, Nat.reduceLT, Int.reduceEq, Nat.reduceMul, q1, c1, and_self]⟩ ?_
      · omega
      · omega
      · omega
      · (exact .inl rfl; done)
      · (exact .inl rfl; done)
      · assumption
      · exact fun _ _ h _ => h
      · exact id
      rintro k f G' ⟨i, j, rfl, h1, h2, h3, hlo, hhi, hrow, hk, hl, f10, f11, f0, f1, f4⟩
    have hm := @mid_eq i j (by omega)
    simp (maxDischargeDepth := 9) only [↓gB, gV, gT, reduceIte, reduceCtorEq, Nat.reduceEqDiff, Nat.reduceAdd, Nat.reduceSub, Nat.reduceLeDiff, Nat.reduceLT, Int.reduceEq, Nat.reduceMul, q1, c1, hk, f10, f11, f0, f1, f4, hm]
    refine Xc_split _ _ _ _ _ (fun c2 => ?_) (fun c2 => ?_)
    · obtain ⟨y0, hely⟩ : ∃ y0, xs[(i + j) / 2]? = some y0 := ⟨_, List.getElem?_eq_getElem (by omega)⟩
      have hQy := hQ y0 (List.mem_of_getElem? hely)
      simp (maxDischargeDepth := 9) only [↓gB, gV, gT, reduceIte, reduceCtorEq, Nat.reduceEqDiff, Nat.reduceAdd, Nat.reduceSub, Nat.reduceLeDiff, Nat.reduceLT, Int.reduceEq, Nat.reduceMul, q1, c1, hk, f10, f11, f0, f1, f4, hm, c2, hg']
      refine vguard_intro (by omega) ?_
      refine Xdraw_intro [0, 1, 2, 3, 4, 5, 6, 7, 8, 9, 10] mixed (by kernel_rfl) (by decide +kernel) ?_
      simp (maxDischargeDepth := 9) only [↓gB, gV, gT, reduceIte, reduceCtorEq, Nat.reduceEqDiff, Nat.reduceAdd, Nat.reduceSub, Nat.reduceLeDiff, Nat.reduceLT, Int.reduceEq, Nat.reduceMul, q1, c1, hk, f10, f11, f0, f1, f4, hm, c2, hg']
      obtain ⟨x1, a1, s1, m1, rfl, rfl, e1⟩ := hrow.at ((i + j) / 2) (by omega) 2 rfl
      obtain rfl := el_eq hely m1
      simp (maxDischargeDepth := 9) only [↓gB, gV, gT, reduceIte, reduceCtorEq, Nat.reduceEqDiff, Nat.reduceAdd, Nat.reduceSub, Nat.reduceLeDiff, Nat.reduceLT, Int.reduceEq, Nat.reduceMul, q1, c1, f10, f11, f1, f4, hm, c2, hk, f0, e1, hg']
      refine vguard_intro (by omega) ?_
      refine vguard_intro (by omega) ?_
      obtain ⟨x2, s2, m2, rfl, e2⟩ := hrow.at' (a0) (by omega) 2 rfl
      obtain rfl := el_eq helx m2
      simp (maxDischargeDepth := 9) only [↓gB, gV, gT, reduceIte, reduceCtorEq, Nat.reduceEqDiff, Nat.reduceAdd, Nat.reduceSub, Nat.reduceLeDiff, Nat.reduceLT, Int.reduceEq, Nat.reduceMul, q1, c1, f10, f11, f1, f4, hm, c2, hk, f0, e1, e2, hg']
      refine Ycp (hf _ hk y0 x0 hQy hQx) ?_
      by_cases c3 : cf y0 x0 < 0
      · have c4 := (hcf _ _).1 c3
        focus
          simp (maxDischargeDepth := 9) only [↓gB, gV, gT, reduceIte, reduceCtorEq, Nat.reduceEqDiff, Nat.reduceAdd, Nat.reduceSub, Nat.reduceLeDiff, Nat.reduceLT, Int.reduceEq, Nat.reduceMul, q1, c1, f10, f11, f1, f4, hm, c2, hk, f0, e1, e2, c3, c4]
          have q2 : Go.IntKind.i64.wrap (↑i + ↑j) = ↑i + ↑j := wrap_id (by omega)
          simp (maxDischargeDepth := 9) only [↓gB, gV, gT, reduceIte, reduceCtorEq, Nat.reduceEqDiff, Nat.reduceAdd, Nat.reduceSub, Nat.reduceLeDiff, Nat.reduceLT, Int.reduceEq, Nat.reduceMul, q1, c1, f10, f11, f1, f4, hm, c2, hk, f0, e1, e2, c3, c4, q2]
          have q3 : Go.IntKind.i64.wrap (↑((i + j) / 2) + 1) = ↑((i + j) / 2) + 1 := wrap_id (by omega)
          simp (maxDischargeDepth := 9) only [↓gB, gV, gT, reduceIte, reduceCtorEq, Nat.reduceEqDiff, Nat.reduceAdd, Nat.reduceSub, Nat.reduceLeDiff, Nat.reduceLT, Int.reduceEq, Nat.reduceMul, q1, c1, f10, f11, f1, f4, hm, c2, hk, f0, e1, e2, c3, c4, q2, q3]
          rw [N_lp]
          refine ⟨_, ?_, _, sub_refl _, (i + j) / 2 + 1, j, rfl, ?_, ?_, ?_, ?_, ?_, ?_, ?_, ?_, by simp (maxDischargeDepth := 9) only [↓gB, gV, gT, reduceIte, reduceCtorEq, Nat.reduceEqDiff, Nat.reduceAdd, Nat.reduceSub, Nat.reduceLeDiff, Nat.reduceLT, Int.reduceEq, Nat.reduceMul, q1, c1, f10, f11, f1, f4, hm, c2, hk, f0, e1, e2, c3, c4, q2, q3, nat_succ, and_self]⟩
          · omega
          · omega
          · omega
          · assumption
          · (exact .inr ⟨y0, by simpa using hely, c4⟩; done)
          · assumption
          · assumption
          · assumption
          · assumption
      · have c4 := mt (hcf _ _).2 c3
        focus
          simp (maxDischargeDepth := 9) only [↓gB, gV, gT, reduceIte, reduceCtorEq, Nat.reduceEqDiff, Nat.reduceAdd, Nat.reduceSub, Nat.reduceLeDiff, Nat.reduceLT, Int.reduceEq, Nat.reduceMul, q1, c1, f10, f11, f1, f4, hm, c2, hk, f0, e1, e2, c3, c4]
          have q2 : Go.IntKind.i64.wrap (↑i + ↑j) = ↑i + ↑j := wrap_id (by omega)
          simp (maxDischargeDepth := 9) only [↓gB, gV, gT, reduceIte, reduceCtorEq, Nat.reduceEqDiff, Nat.reduceAdd, Nat.reduceSub, Nat.reduceLeDiff, Nat.reduceLT, Int.reduceEq, Nat.reduceMul, q1, c1, f10, f11, f1, f4, hm, c2, hk, f0, e1, e2, c3, c4, q2]
          rw [N_lp]
          refine ⟨_, ?_, _, sub_refl _, i, (i + j) / 2, rfl, ?_, ?_, ?_, ?_, ?_, ?_, ?_, ?_, by simp (maxDischargeDepth := 9) only [↓gB, gV, gT, reduceIte, reduceCtorEq, Nat.reduceEqDiff, Nat.reduceAdd, Nat.reduceSub, Nat.reduceLeDiff, Nat.reduceLT, Int.reduceEq, Nat.reduceMul, q1, c1, f10, f11, f1, f4, hm, c2, hk, f0, e1, e2, c3, c4, q2, nat_succ, and_self]⟩
          · omega
          · assumption
          · omega
          · omega
          · assumption
          · (exact .inr ⟨y0, hely, by omega⟩; done)
          · assumption
          · assumption
          · assumption
    · have eij : i = j := by omega
      subst eij
      obtain ⟨B1, B2, rfl, hB1, hB2⟩ := split_at (l := B) (n := i - m0) (by omega)
      have hb1 : ∀ y ∈ B1, key y < key x0 := by
        have := lo_all (S := S') (P := P' ++ [x0]) (X := B1 ++ B2) (i := i) (Q := fun y => key y < key x0) rB (by rw [← hX2, hPx]; exact hlo) (fun x y h1 h2 => by omega) (by omega) (by omega)
        rw [hPx, ← hB1, List.take_left] at this; exact this
      have hb2 : ∀ y ∈ B2, key x0 ≤ key y := by
        have := hi_all (S := S') (P := P' ++ [x0]) (X := B1 ++ B2) (j := i) (Q := fun y => key x0 ≤ key y) rB (by rw [← hX2, hPx, hB]; exact hhi) (fun x y h1 h2 => by omega) (by omega) (by omega)
        rw [hPx, ← hB1, List.drop_left] at this; exact this
      have hone := one_right rB hb1 hb2
      rw [List.length_append] at hB hB0 hxl
      simp (maxDischargeDepth := 9) only [↓gB, gV, gT, reduceIte, reduceCtorEq, Nat.reduceEqDiff, Nat.reduceAdd, Nat.reduceSub, Nat.reduceLeDiff, Nat.reduceLT, Int.reduceEq, Nat.reduceMul, q1, c1, hk, f10, f0, f1, f4, f11, hm, c2]
      focus
        refine Xloop_intro _ _ _ _ _ (fun k f G' => ∃ (t : Nat) (D : List SRest), k = i - t ∧ (a0 ≤ t ∧ t ≤ a0 + B1.length) ∧ (MoveInv P' x0 B1 (B2 ++ S') D t) ∧ (D.length = xs.length) ∧ (Row rRest 91 G0 G' (.slice a xs.length c) D) ∧ (∀ b o, G b = some o → notAt (.slice a xs.length c) b → G' b = some o) ∧ (G0.le G → G0.le G') ∧ f 13 = V t ∧ f 0 = Go.Value.slice a xs.length c ∧ f 10 = Go.GL.V ↑i) _ ⟨a0, xs, rfl, ?_, ?_, ?_, ?_, ?_, ?_, by simp (maxDischargeDepth := 9) only [↓gB, gV, gT, reduceIte, reduceCtorEq, Nat.reduceEqDiff, Nat.reduceAdd, Nat.reduceSub, Nat.reduceLeDiff, Nat.reduceLT, Int.reduceEq, Nat.reduceMul, q1, c1, hk, f10, f0, f1, f4, f11, hm, c2, and_self]⟩ ?_
        · omega
        · (exact ⟨[], B1, rfl, by rw [hX]; simp, by simp; exact hP⟩; done)
        · rfl
        · assumption
        · assumption
        · assumption
        rintro k f G' ⟨t, D, rfl, ht, h, hD, hrow, hk, hl, f13, f0, f10⟩
      simp (maxDischargeDepth := 9) only [↓gB, gV, gT, reduceIte, reduceCtorEq, Nat.reduceEqDiff, Nat.reduceAdd, Nat.reduceSub, Nat.reduceLeDiff, Nat.reduceLT, Int.reduceEq, Nat.reduceMul, q1, c1, hk, f10, f0, f1, f4, f11, hm, c2, hk, f13, f0, f10]
      have q2 : Go.IntKind.i64.wrap (↑i - 1) = ↑i - 1 := wrap_id (by omega)
      simp (maxDischargeDepth := 9) only [↓gB, gV, gT, reduceIte, reduceCtorEq, Nat.reduceEqDiff, Nat.reduceAdd, Nat.reduceSub, Nat.reduceLeDiff, Nat.reduceLT, Int.reduceEq, Nat.reduceMul, q1, c1, hk, f10, f0, f1, f4, f11, hm, c2, hk, f13, f0, f10, q2]
      refine Xc_split _ _ _ _ _ (fun c3 => ?_) (fun c3 => ?_)
      · obtain ⟨p, help⟩ : ∃ p, D[t]? = some p := ⟨_, List.getElem?_eq_getElem (by omega)⟩
        obtain ⟨q, helq⟩ : ∃ q, D[t + 1]? = some q := ⟨_, List.getElem?_eq_getElem (by omega)⟩
        have hmv := move_up h (by omega) help helq
        focus
          simp (maxDischargeDepth := 9) only [↓gB, gV, gT, reduceIte, reduceCtorEq, Nat.reduceEqDiff, Nat.reduceAdd, Nat.reduceSub, Nat.reduceLeDiff, Nat.reduceLT, Int.reduceEq, Nat.reduceMul, q1, c1, hk, f10, f0, f1, f4, f11, hm, c2, hk, f13, f0, f10, q2, c3]
          refine Xdraw_intro [0, 1, 2, 3, 4, 5, 6, 7, 8, 9, 10, 11, 12, 13, 14, 15, 16, 17] mixed (by kernel_rfl) (by decide +kernel) ?_
          simp (maxDischargeDepth := 9) only [↓gB, gV, gT, reduceIte, reduceCtorEq, Nat.reduceEqDiff, Nat.reduceAdd, Nat.reduceSub, Nat.reduceLeDiff, Nat.reduceLT, Int.reduceEq, Nat.reduceMul, q1, c1, hk, f10, f0, f1, f4, f11, hm, c2, hk, f13, f0, f10, q2, c3]
          have q3 : Go.IntKind.i64.wrap (↑t + 1) = ↑t + 1 := wrap_id (by omega)
          simp (maxDischargeDepth := 9) only [↓gB, gV, gT, reduceIte, reduceCtorEq, Nat.reduceEqDiff, Nat.reduceAdd, Nat.reduceSub, Nat.reduceLeDiff, Nat.reduceLT, Int.reduceEq, Nat.reduceMul, q1, c1, hk, f10, f0, f1, f4, f11, hm, c2, hk, f13, f0, f10, q2, c3, q3]
          obtain ⟨x1, a1, s1, m1, rfl, rfl, e1⟩ := hrow.at (t + 1) (by omega) 2 rfl
          obtain rfl := el_eq helq m1
          simp (maxDischargeDepth := 9) only [↓gB, gV, gT, reduceIte, reduceCtorEq, Nat.reduceEqDiff, Nat.reduceAdd, Nat.reduceSub, Nat.reduceLeDiff, Nat.reduceLT, Int.reduceEq, Nat.reduceMul, q1, c1, f10, f1, f4, f11, hm, c2, f13, f10, q2, c3, q3, hk, f0, hk, f0, e1]
          refine vguard_intro (by omega) ?_
          refine vguard_intro (by omega) ?_
          obtain ⟨x2, s2, m2, rfl, e2⟩ := hrow.at' (t) (by omega) 2 rfl
          obtain rfl := el_eq help m2
          simp (maxDischargeDepth := 9) only [↓gB, gV, gT, reduceIte, reduceCtorEq, Nat.reduceEqDiff, Nat.reduceAdd, Nat.reduceSub, Nat.reduceLeDiff, Nat.reduceLT, Int.reduceEq, Nat.reduceMul, q1, c1, f10, f1, f4, f11, hm, c2, f13, f10, q2, c3, q3, hk, f0, hk, f0, e1, e2]
          refine vguard_intro (by omega) ?_
          refine Yrow hrow rfl (y := ⟨_, _⟩) (by first | omega | (simp only [List.length_set]; omega)) rfl (fun _ hg => rfl) fun G1 w1 i1 k1 kn1 l1 => ?_
          simp (maxDischargeDepth := 9) only [↓gB, gV, gT, reduceIte, reduceCtorEq, Nat.reduceEqDiff, Nat.reduceAdd, Nat.reduceSub, Nat.reduceLeDiff, Nat.reduceLT, Int.reduceEq, Nat.reduceMul, q1, c1, f10, f1, f4, f11, hm, c2, f13, f10, q2, c3, q3, hk, f0, hk, f0, e1, e2, k1, kn1]
          refine vguard_intro (by omega) ?_
          refine Yrow w1 rfl (y := ⟨_, _⟩) (by first | omega | (simp only [List.length_set]; omega)) rfl (fun _ hg => rfl) fun G2 w2 i2 k2 kn2 l2 => ?_
          simp (maxDischargeDepth := 9) only [↓gB, gV, gT, reduceIte, reduceCtorEq, Nat.reduceEqDiff, Nat.reduceAdd, Nat.reduceSub, Nat.reduceLeDiff, Nat.reduceLT, Int.reduceEq, Nat.reduceMul, q1, c1, f10, f1, f4, f11, hm, c2, f13, f10, q2, c3, q3, hk, f0, hk, f0, e1, e2, k1, kn1, k2, kn2]
          rw [N_lp]
          refine ⟨_, ?_, _, sub_refl _, t + 1, (D.set t q).set (t + 1) p, rfl, ?_, ?_, ?_, ?_, ?_, ?_, by simp (maxDischargeDepth := 9) only [↓gB, gV, gT, reduceIte, reduceCtorEq, Nat.reduceEqDiff, Nat.reduceAdd, Nat.reduceSub, Nat.reduceLeDiff, Nat.reduceLT, Int.reduceEq, Nat.reduceMul, q1, c1, f10, f1, f4, f11, hm, c2, f13, f10, q2, c3, q3, hk, f0, hk, f0, e1, e2, k1, kn1, k2, kn2, nat_succ, and_self]⟩
          · omega
          · omega
          · assumption
          · (simp [hD]; done)
          · assumption
          · (exact fun b o q1 q2 => k2 b o (k1 b o (hk b o q1 q2) q2) q2; done)
          · (exact fun q => l2 (l1 (hl q)); done)
      · have hD2 := move_end h (by omega)
        rw [hD2] at hrow
        simp (maxDischargeDepth := 9) only [↓gB, gV, gT, reduceIte, reduceCtorEq, Nat.reduceEqDiff, Nat.reduceAdd, Nat.reduceSub, Nat.reduceLeDiff, Nat.reduceLT, Int.reduceEq, Nat.reduceMul, q1, c1, hk, f10, f0, f1, f4, f11, hm, c2, hk, f13, f0, f10, q2, c3]
        exact Kup_same ⟨rfl, B1 ++ x0 :: B2, by simpa using hrow, hone, hk, hl⟩
  · simp (maxDischargeDepth := 9) only [↓gB, gV, gT, reduceIte, reduceCtorEq, Nat.reduceEqDiff, Nat.reduceAdd, Nat.reduceSub, Nat.reduceLeDiff, Nat.reduceLT, Int.reduceEq, Nat.reduceMul, q1, c1]
    have q2 : Go.IntKind.i64.wrap (↑b0 - ↑m0) = ↑b0 - ↑m0 := wrap_id (by omega)
    simp (maxDischargeDepth := 9) only [↓gB, gV, gT, reduceIte, reduceCtorEq, Nat.reduceEqDiff, Nat.reduceAdd, Nat.reduceSub, Nat.reduceLeDiff, Nat.reduceLT, Int.reduceEq, Nat.reduceMul, q1, c1, q2]
    refine Xc_split _ _ _ _ _ (fun c2 => ?_) (fun c2 => ?_)
    · obtain ⟨y0, rfl⟩ : ∃ y0, B = [y0] := List.length_eq_one_iff.1 (by omega)
      have hely : xs[m0]? = some y0 := by
        have : xs = (P' ++ A) ++ y0 :: S' := by rw [hX]; simp
        rw [this]; exact at_app (by simp; omega)
      have hQy := hQ y0 (List.mem_of_getElem? hely)
      simp (maxDischargeDepth := 9) only [↓gB, gV, gT, reduceIte, reduceCtorEq, Nat.reduceEqDiff, Nat.reduceAdd, Nat.reduceSub, Nat.reduceLeDiff, Nat.reduceLT, Int.reduceEq, Nat.reduceMul, q1, c1, q2, c2]
      focus
        refine Xloop_intro _ _ _ _ _ (fun k f G' => ∃ (i j : Nat), k = j - i ∧ (a0 ≤ i) ∧ (i ≤ j) ∧ (j ≤ m0) ∧ (Lo xs a0 i (fun y => key y ≤ key y0)) ∧ (Hi xs m0 j (fun y => key y0 < key y)) ∧ (Row rRest 91 G0 G' (.slice a xs.length c) xs) ∧ (∀ b o, G b = some o → notAt (.slice a xs.length c) b → G' b = some o) ∧ (G0.le G → G0.le G') ∧ f 14 = V i ∧ f 15 = V j ∧ f 0 = Go.Value.slice a xs.length c ∧ f 2 = Go.GL.V ↑m0 ∧ f 4 = Go.Value.func (Go.Fn.func g) fa.toArray fb.toArray) _ ⟨a0, m0, rfl, ?_, ?_, ?_, ?_, ?_, ?_, ?_, ?_, by simp (maxDischargeDepth := 9) only [↓gB, gV, gT, reduceIte, reduceCtorEq, Nat.reduceEqDiff, Nat.reduceAdd, Nat.reduceSub, Nat.reduceLeDiff, Nat.reduceLT, Int.reduceEq, Nat.reduceMul, q1, c1, q2, c2, and_self]⟩ ?_
        · omega
        · omega
        · omega
        · (exact .inl rfl; done)
        · (exact .inl rfl; done)
        · assumption
        · exact fun _ _ h _ => h
        · exact id
        rintro k f G' ⟨i, j, rfl, h1, h2, h3, hlo, hhi, hrow, hk, hl, f14, f15, f0, f2, f4⟩
      have hm := @mid_eq i j (by omega)
      simp (maxDischargeDepth := 9) only [↓gB, gV, gT, reduceIte, reduceCtorEq, Nat.reduceEqDiff, Nat.reduceAdd, Nat.reduceSub, Nat.reduceLeDiff, Nat.reduceLT, Int.reduceEq, Nat.reduceMul, q1, c1, q2, c2, hk, f14, f15, f0, f2, f4, hm]
      refine Xc_split _ _ _ _ _ (fun c3 => ?_) (fun c3 => ?_)
      · obtain ⟨x0, helx⟩ : ∃ x0, xs[(i + j) / 2]? = some x0 := ⟨_, List.getElem?_eq_getElem (by omega)⟩
        have hQx := hQ x0 (List.mem_of_getElem? helx)
        simp (maxDischargeDepth := 9) only [↓gB, gV, gT, reduceIte, reduceCtorEq, Nat.reduceEqDiff, Nat.reduceAdd, Nat.reduceSub, Nat.reduceLeDiff, Nat.reduceLT, Int.reduceEq, Nat.reduceMul, q1, c1, q2, c2, hk, f14, f15, f0, f2, f4, hm, c3, hg']
        refine vguard_intro (by omega) ?_
        refine Xdraw_intro [0, 1, 2, 3, 4, 5, 6, 7, 8, 9, 10, 11] mixed (by kernel_rfl) (by decide +kernel) ?_
        simp (maxDischargeDepth := 9) only [↓gB, gV, gT, reduceIte, reduceCtorEq, Nat.reduceEqDiff, Nat.reduceAdd, Nat.reduceSub, Nat.reduceLeDiff, Nat.reduceLT, Int.reduceEq, Nat.reduceMul, q1, c1, q2, c2, hk, f14, f15, f0, f2, f4, hm, c3, hg']
        obtain ⟨x1, a1, s1, m1, rfl, rfl, e1⟩ := hrow.at (m0) (by omega) 2 rfl
        obtain rfl := el_eq hely m1
        simp (maxDischargeDepth := 9) only [↓gB, gV, gT, reduceIte, reduceCtorEq, Nat.reduceEqDiff, Nat.reduceAdd, Nat.reduceSub, Nat.reduceLeDiff, Nat.reduceLT, Int.reduceEq, Nat.reduceMul, q1, c1, q2, c2, f14, f15, f2, f4, hm, c3, hk, f0, e1, hg']
        refine vguard_intro (by omega) ?_
        refine vguard_intro (by omega) ?_
        obtain ⟨x2, s2, m2, rfl, e2⟩ := hrow.at' ((i + j) / 2) (by omega) 2 rfl
        obtain rfl := el_eq helx m2
        simp (maxDischargeDepth := 9) only [↓gB, gV, gT, reduceIte, reduceCtorEq, Nat.reduceEqDiff, Nat.reduceAdd, Nat.reduceSub, Nat.reduceLeDiff, Nat.reduceLT, Int.reduceEq, Nat.reduceMul, q1, c1, q2, c2, f14, f15, f2, f4, hm, c3, hk, f0, e1, e2, hg']
        refine Ycp (hf _ hk y0 x0 hQy hQx) ?_
        by_cases c4 : cf y0 x0 < 0
        · have c5 := (hcf _ _).1 c4
          focus
            simp (maxDischargeDepth := 9) only [↓gB, gV, gT, reduceIte, reduceCtorEq, Nat.reduceEqDiff, Nat.reduceAdd, Nat.reduceSub, Nat.reduceLeDiff, Nat.reduceLT, Int.reduceEq, Nat.reduceMul, q1, c1, q2, c2, f14, f15, f2, f4, hm, c3, hk, f0, e1, e2, c4, c5]
            have q3 : Go.IntKind.i64.wrap (↑i + ↑j) = ↑i + ↑j := wrap_id (by omega)
            simp (maxDischargeDepth := 9) only [↓gB, gV, gT, reduceIte, reduceCtorEq, Nat.reduceEqDiff, Nat.reduceAdd, Nat.reduceSub, Nat.reduceLeDiff, Nat.reduceLT, Int.reduceEq, Nat.reduceMul, q1, c1, q2, c2, f14, f15, f2, f4, hm, c3, hk, f0, e1, e2, c4, c5, q3]
            rw [N_lp]
            refine ⟨_, ?_, _, sub_refl _, i, (i + j) / 2, rfl, ?_, ?_, ?_, ?_, ?_, ?_, ?_, ?_, by simp (maxDischargeDepth := 9) only [↓gB, gV, gT, reduceIte, reduceCtorEq, Nat.reduceEqDiff, Nat.reduceAdd, Nat.reduceSub, Nat.reduceLeDiff, Nat.reduceLT, Int.reduceEq, Nat.reduceMul, q1, c1, q2, c2, f14, f15, f2, f4, hm, c3, hk, f0, e1, e2, c4, c5, q3, nat_succ, and_self]⟩
            · omega
            · assumption
            · omega
            · omega
            · assumption
            · (exact .inr ⟨x0, helx, by omega⟩; done)
            · assumption
            · assumption
            · assumption
        · have c5 := mt (hcf _ _).2 c4
          focus
            simp (maxDischargeDepth := 9) only [↓gB, gV, gT, reduceIte, reduceCtorEq, Nat.reduceEqDiff, Nat.reduceAdd, Nat.reduceSub, Nat.reduceLeDiff, Nat.reduceLT, Int.reduceEq, Nat.reduceMul, q1, c1, q2, c2, f14, f15, f2, f4, hm, c3, hk, f0, e1, e2, c4, c5]
            have q3 : Go.IntKind.i64.wrap (↑i + ↑j) = ↑i + ↑j := wrap_id (by omega)
            simp (maxDischargeDepth := 9) only [↓gB, gV, gT, reduceIte, reduceCtorEq, Nat.reduceEqDiff, Nat.reduceAdd, Nat.reduceSub, Nat.reduceLeDiff, Nat.reduceLT, Int.reduceEq, Nat.reduceMul, q1, c1, q2, c2, f14, f15, f2, f4, hm, c3, hk, f0, e1, e2, c4, c5, q3]
            have q4 : Go.IntKind.i64.wrap (↑((i + j) / 2) + 1) = ↑((i + j) / 2) + 1 := wrap_id (by omega)
            simp (maxDischargeDepth := 9) only [↓gB, gV, gT, reduceIte, reduceCtorEq, Nat.reduceEqDiff, Nat.reduceAdd, Nat.reduceSub, Nat.reduceLeDiff, Nat.reduceLT, Int.reduceEq, Nat.reduceMul, q1, c1, q2, c2, f14, f15, f2, f4, hm, c3, hk, f0, e1, e2, c4, c5, q3, q4]
            rw [N_lp]
            refine ⟨_, ?_, _, sub_refl _, (i + j) / 2 + 1, j, rfl, ?_, ?_, ?_, ?_, ?_, ?_, ?_, ?_, by simp (maxDischargeDepth := 9) only [↓gB, gV, gT, reduceIte, reduceCtorEq, Nat.reduceEqDiff, Nat.reduceAdd, Nat.reduceSub, Nat.reduceLeDiff, Nat.reduceLT, Int.reduceEq, Nat.reduceMul, q1, c1, q2, c2, f14, f15, f2, f4, hm, c3, hk, f0, e1, e2, c4, c5, q3, q4, nat_succ, and_self]⟩
            · omega
            · omega
            · omega
            · assumption
            · (exact .inr ⟨x0, by simpa using helx, by omega⟩; done)
            · assumption
            · assumption
            · assumption
            · assumption
      · have eij : i = j := by omega
        subst eij
        obtain ⟨A1, A2, rfl, hA1, hA2⟩ := split_at (l := A) (n := i - a0) (by omega)
        have ha1 : ∀ y ∈ A1, key y ≤ key y0 := by
          have := lo_all (S := [y0] ++ S') (P := P') (X := A1 ++ A2) (i := i) (Q := fun y => key y ≤ key y0) rA (by rw [← hX, hP]; exact hlo) (fun x y h1 h2 => by omega) (by omega) (by omega)
          rw [hP, ← hA1, List.take_left] at this; exact this
        have ha2 : ∀ y ∈ A2, key y0 < key y := by
          have := hi_all (S := [y0] ++ S') (P := P') (X := A1 ++ A2) (j := i) (Q := fun y => key y0 < key y) rA (by rw [← hX, hP, hA]; exact hhi) (fun x y h1 h2 => by omega) (by omega) (by omega)
          rw [hP, ← hA1, List.drop_left] at this; exact this
        have hone := one_left rA ha1 ha2
        rw [List.length_append] at hA hA0 hxl
        simp (maxDischargeDepth := 9) only [↓gB, gV, gT, reduceIte, reduceCtorEq, Nat.reduceEqDiff, Nat.reduceAdd, Nat.reduceSub, Nat.reduceLeDiff, Nat.reduceLT, Int.reduceEq, Nat.reduceMul, q1, c1, q2, c2, hk, f14, f0, f2, f4, f15, hm, c3]
        focus
          refine Xloop_intro _ _ _ _ _ (fun k f G' => ∃ (t : Nat) (D : List SRest), k = t - i ∧ (i ≤ t ∧ t ≤ m0) ∧ (MoveInv (P' ++ A1) y0 A2 S' D t) ∧ (D.length = xs.length) ∧ (Row rRest 91 G0 G' (.slice a xs.length c) D) ∧ (∀ b o, G b = some o → notAt (.slice a xs.length c) b → G' b = some o) ∧ (G0.le G → G0.le G') ∧ f 17 = V t ∧ f 0 = Go.Value.slice a xs.length c ∧ f 14 = Go.GL.V ↑i) _ ⟨m0, xs, rfl, ?_, ?_, ?_, ?_, ?_, ?_, by simp (maxDischargeDepth := 9) only [↓gB, gV, gT, reduceIte, reduceCtorEq, Nat.reduceEqDiff, Nat.reduceAdd, Nat.reduceSub, Nat.reduceLeDiff, Nat.reduceLT, Int.reduceEq, Nat.reduceMul, q1, c1, q2, c2, hk, f14, f0, f2, f4, f15, hm, c3, and_self]⟩ ?_
          · omega
          · (exact ⟨A2, [], by simp, by rw [hX]; simp, by simp; omega⟩; done)
          · rfl
          · assumption
          · assumption
          · assumption
          rintro k f G' ⟨t, D, rfl, ht, h, hD, hrow, hk, hl, f17, f0, f14⟩
        simp (maxDischargeDepth := 9) only [↓gB, gV, gT, reduceIte, reduceCtorEq, Nat.reduceEqDiff, Nat.reduceAdd, Nat.reduceSub, Nat.reduceLeDiff, Nat.reduceLT, Int.reduceEq, Nat.reduceMul, q1, c1, q2, c2, hk, f14, f0, f2, f4, f15, hm, c3, hk, f17, f0, f14]
        refine Xc_split _ _ _ _ _ (fun c4 => ?_) (fun c4 => ?_)
        · obtain ⟨p, help⟩ : ∃ p, D[t]? = some p := ⟨_, List.getElem?_eq_getElem (by omega)⟩
          obtain ⟨q, helq⟩ : ∃ q, D[t - 1]? = some q := ⟨_, List.getElem?_eq_getElem (by omega)⟩
          have hmv := move_down h (by rw [List.length_append]; omega) help helq
          have ht1 : ((t - 1 : Nat) : Int) = (t : Int) - 1 := by omega
          focus
            simp (maxDischargeDepth := 9) only [↓gB, gV, gT, reduceIte, reduceCtorEq, Nat.reduceEqDiff, Nat.reduceAdd, Nat.reduceSub, Nat.reduceLeDiff, Nat.reduceLT, Int.reduceEq, Nat.reduceMul, q1, c1, q2, c2, hk, f14, f0, f2, f4, f15, hm, c3, hk, f17, f0, f14, c4, ht1]
            refine Xdraw_intro [0, 1, 2, 3, 4, 5, 6, 7, 8, 9, 10, 11, 12, 13, 14, 15, 16, 17] mixed (by kernel_rfl) (by decide +kernel) ?_
            simp (maxDischargeDepth := 9) only [↓gB, gV, gT, reduceIte, reduceCtorEq, Nat.reduceEqDiff, Nat.reduceAdd, Nat.reduceSub, Nat.reduceLeDiff, Nat.reduceLT, Int.reduceEq, Nat.reduceMul, q1, c1, q2, c2, hk, f14, f0, f2, f4, f15, hm, c3, hk, f17, f0, f14, c4, ht1]
            have q3 : Go.IntKind.i64.wrap (↑t - 1) = ↑t - 1 := wrap_id (by omega)
            simp (maxDischargeDepth := 9) only [↓gB, gV, gT, reduceIte, reduceCtorEq, Nat.reduceEqDiff, Nat.reduceAdd, Nat.reduceSub, Nat.reduceLeDiff, Nat.reduceLT, Int.reduceEq, Nat.reduceMul, q1, c1, q2, c2, hk, f14, f0, f2, f4, f15, hm, c3, hk, f17, f0, f14, c4, q3, ht1]
            obtain ⟨x1, a1, s1, m1, rfl, rfl, e1⟩ := hrow.at (t - 1) (by omega) 2 rfl
            obtain rfl := el_eq helq m1
            simp (maxDischargeDepth := 9) only [↓gB, gV, gT, reduceIte, reduceCtorEq, Nat.reduceEqDiff, Nat.reduceAdd, Nat.reduceSub, Nat.reduceLeDiff, Nat.reduceLT, Int.reduceEq, Nat.reduceMul, q1, c1, q2, c2, f14, f2, f4, f15, hm, c3, f17, f14, c4, q3, hk, f0, hk, f0, e1, ht1]
            refine vguard_intro (by omega) ?_
            refine vguard_intro (by omega) ?_
            obtain ⟨x2, s2, m2, rfl, e2⟩ := hrow.at' (t) (by omega) 2 rfl
            obtain rfl := el_eq help m2
            simp (maxDischargeDepth := 9) only [↓gB, gV, gT, reduceIte, reduceCtorEq, Nat.reduceEqDiff, Nat.reduceAdd, Nat.reduceSub, Nat.reduceLeDiff, Nat.reduceLT, Int.reduceEq, Nat.reduceMul, q1, c1, q2, c2, f14, f2, f4, f15, hm, c3, f17, f14, c4, q3, hk, f0, hk, f0, e1, e2, ht1]
            refine vguard_intro (by omega) ?_
            refine Yrow hrow rfl (y := ⟨_, _⟩) (by first | omega | (simp only [List.length_set]; omega)) rfl (fun _ hg => rfl) fun G1 w1 i1 k1 kn1 l1 => ?_
            simp (maxDischargeDepth := 9) only [↓gB, gV, gT, reduceIte, reduceCtorEq, Nat.reduceEqDiff, Nat.reduceAdd, Nat.reduceSub, Nat.reduceLeDiff, Nat.reduceLT, Int.reduceEq, Nat.reduceMul, q1, c1, q2, c2, f14, f2, f4, f15, hm, c3, f17, f14, c4, q3, hk, f0, hk, f0, e1, e2, k1, kn1, ht1]
            refine vguard_intro (by omega) ?_
            refine Yrow w1 rfl (y := ⟨_, _⟩) (by first | omega | (simp only [List.length_set]; omega)) rfl (fun _ hg => rfl) fun G2 w2 i2 k2 kn2 l2 => ?_
            simp (maxDischargeDepth := 9) only [↓gB, gV, gT, reduceIte, reduceCtorEq, Nat.reduceEqDiff, Nat.reduceAdd, Nat.reduceSub, Nat.reduceLeDiff, Nat.reduceLT, Int.reduceEq, Nat.reduceMul, q1, c1, q2, c2, f14, f2, f4, f15, hm, c3, f17, f14, c4, q3, hk, f0, hk, f0, e1, e2, k1, kn1, k2, kn2, ht1]
            rw [N_lp]
            refine ⟨_, ?_, _, sub_refl _, t - 1, (D.set t q).set (t - 1) p, rfl, ?_, ?_, ?_, ?_, ?_, ?_, by simp (maxDischargeDepth := 9) only [↓gB, gV, gT, reduceIte, reduceCtorEq, Nat.reduceEqDiff, Nat.reduceAdd, Nat.reduceSub, Nat.reduceLeDiff, Nat.reduceLT, Int.reduceEq, Nat.reduceMul, q1, c1, q2, c2, f14, f2, f4, f15, hm, c3, f17, f14, c4, q3, hk, f0, hk, f0, e1, e2, k1, kn1, k2, kn2, ht1, nat_succ, and_self]⟩
            · omega
            · omega
            · assumption
            · (simp [hD]; done)
            · assumption
            · (exact fun b o q1 q2 => k2 b o (k1 b o (hk b o q1 q2) q2) q2; done)
            · (exact fun q => l2 (l1 (hl q)); done)
        · have hD2 := move_home h (by rw [List.length_append]; omega)
          rw [hD2] at hrow
          simp (maxDischargeDepth := 9) only [↓gB, gV, gT, reduceIte, reduceCtorEq, Nat.reduceEqDiff, Nat.reduceAdd, Nat.reduceSub, Nat.reduceLeDiff, Nat.reduceLT, Int.reduceEq, Nat.reduceMul, q1, c1, q2, c2, hk, f14, f0, f2, f4, f15, hm, c3, hk, f17, f0, f14, c4]
          exact Kup_same ⟨rfl, A1 ++ y0 :: A2, by simpa using hrow, hone, hk, hl⟩
    · have hmid := @mid_eq a0 b0 (by omega)
      obtain ⟨d0, hd0⟩ : ∃ d0, (a0 + b0) / 2 = d0 := ⟨_, rfl⟩
      rw [hd0] at hmid
      have hd1 : (d0 : Int) + m0 = ((d0 + m0 : Nat) : Int) := (Int.natCast_add ..).symm
      simp (maxDischargeDepth := 9) only [↓gB, gV, gT, reduceIte, reduceCtorEq, Nat.reduceEqDiff, Nat.reduceAdd, Nat.reduceSub, Nat.reduceLeDiff, Nat.reduceLT, Int.reduceEq, Nat.reduceMul, q1, c1, q2, c2, hmid, hd1]
      refine vguard_intro (by omega) ?_
      focus
        refine XcCut (J := fun f G' => ∃ (s0 r0 : Nat), (a0 ≤ s0) ∧ (s0 ≤ r0) ∧ (r0 ≤ m0) ∧ (r0 ≤ d0) ∧ (s0 = a0 ∨ d0 + m0 - s0 = b0) ∧ (r0 = m0 ∨ r0 = d0) ∧ (d0 + m0 - s0 ≤ b0) ∧ (Row rRest 91 G0 G' (.slice a xs.length c) xs) ∧ (∀ b o, G b = some o → notAt (.slice a xs.length c) b → G' b = some o) ∧ (G0.le G → G0.le G') ∧ f 20 = V s0 ∧ f 21 = V r0 ∧ f 0 = Go.Value.slice a xs.length c ∧ f 1 = Go.GL.V ↑a0 ∧ f 2 = Go.GL.V ↑m0 ∧ f 3 = Go.GL.V ↑b0 ∧ f 4 = Go.Value.func (Go.Fn.func g) fa.toArray fb.toArray ∧ f 18 = Go.Value.int Go.IntKind.i64 ↑d0 ∧ f 19 = Go.Value.int Go.IntKind.i64 (Go.IntKind.i64.wrap ↑(d0 + m0))) ?_ ?_
        rotate_left 1
        rintro f G' ⟨s0, r0, ja, jb, jc, jd, je, jf, jg, hrow, hk, hl, f20, f21, f0, f1, f2, f3, f4, f18, f19⟩
        rotate_right 1
      · refine Xc_split _ _ _ _ _ (fun c5 => ?_) (fun c5 => ?_)
        · have e1 : ((d0 + m0 : Nat) : Int) - b0 = ((d0 + m0 - b0 : Nat) : Int) := by omega
          focus
            simp (maxDischargeDepth := 9) only [↓gB, gV, gT, reduceIte, reduceCtorEq, Nat.reduceEqDiff, Nat.reduceAdd, Nat.reduceSub, Nat.reduceLeDiff, Nat.reduceLT, Int.reduceEq, Nat.reduceMul, q1, c1, q2, c2, hmid, c5, e1]
            have q3 : Go.IntKind.i64.wrap (↑a0 + ↑b0) = ↑a0 + ↑b0 := wrap_id (by omega)
            simp (maxDischargeDepth := 9) only [↓gB, gV, gT, reduceIte, reduceCtorEq, Nat.reduceEqDiff, Nat.reduceAdd, Nat.reduceSub, Nat.reduceLeDiff, Nat.reduceLT, Int.reduceEq, Nat.reduceMul, q1, c1, q2, c2, hmid, c5, q3, e1]
            have q4 : Go.IntKind.i64.wrap (↑(d0 + m0)) = ↑(d0 + m0) := wrap_id (by omega)
            simp (maxDischargeDepth := 9) only [↓gB, gV, gT, reduceIte, reduceCtorEq, Nat.reduceEqDiff, Nat.reduceAdd, Nat.reduceSub, Nat.reduceLeDiff, Nat.reduceLT, Int.reduceEq, Nat.reduceMul, q1, c1, q2, c2, hmid, c5, q3, q4, e1]
            have q5 : Go.IntKind.i64.wrap (↑(d0 + m0 - b0)) = ↑(d0 + m0 - b0) := wrap_id (by omega)
            simp (maxDischargeDepth := 9) only [↓gB, gV, gT, reduceIte, reduceCtorEq, Nat.reduceEqDiff, Nat.reduceAdd, Nat.reduceSub, Nat.reduceLeDiff, Nat.reduceLT, Int.reduceEq, Nat.reduceMul, q1, c1, q2, c2, hmid, c5, q3, q4, q5, e1]
            rw [N_cut]
            refine ⟨_, sub_refl _, d0 + m0 - b0, d0, ?_, ?_, ?_, ?_, ?_, ?_, ?_, ?_, ?_, ?_, by simp (maxDischargeDepth := 9) only [↓gB, gV, gT, reduceIte, reduceCtorEq, Nat.reduceEqDiff, Nat.reduceAdd, Nat.reduceSub, Nat.reduceLeDiff, Nat.reduceLT, Int.reduceEq, Nat.reduceMul, q1, c1, q2, c2, hmid, c5, q3, q4, q5, e1, nat_succ, and_self]⟩
            · omega
            · omega
            · omega
            · omega
            · omega
            · omega
            · omega
            · assumption
            · exact fun _ _ h _ => h
            · exact id
        · focus
            simp (maxDischargeDepth := 9) only [↓gB, gV, gT, reduceIte, reduceCtorEq, Nat.reduceEqDiff, Nat.reduceAdd, Nat.reduceSub, Nat.reduceLeDiff, Nat.reduceLT, Int.reduceEq, Nat.reduceMul, q1, c1, q2, c2, hmid, c5]
            have q3 : Go.IntKind.i64.wrap (↑a0 + ↑b0) = ↑a0 + ↑b0 := wrap_id (by omega)
            simp (maxDischargeDepth := 9) only [↓gB, gV, gT, reduceIte, reduceCtorEq, Nat.reduceEqDiff, Nat.reduceAdd, Nat.reduceSub, Nat.reduceLeDiff, Nat.reduceLT, Int.reduceEq, Nat.reduceMul, q1, c1, q2, c2, hmid, c5, q3]
            have q4 : Go.IntKind.i64.wrap (↑(d0 + m0)) = ↑(d0 + m0) := wrap_id (by omega)
            simp (maxDischargeDepth := 9) only [↓gB, gV, gT, reduceIte, reduceCtorEq, Nat.reduceEqDiff, Nat.reduceAdd, Nat.reduceSub, Nat.reduceLeDiff, Nat.reduceLT, Int.reduceEq, Nat.reduceMul, q1, c1, q2, c2, hmid, c5, q3, q4]
            rw [N_cut]
            refine ⟨_, sub_refl _, a0, m0, ?_, ?_, ?_, ?_, ?_, ?_, ?_, ?_, ?_, ?_, by simp (maxDischargeDepth := 9) only [↓gB, gV, gT, reduceIte, reduceCtorEq, Nat.reduceEqDiff, Nat.reduceAdd, Nat.reduceSub, Nat.reduceLeDiff, Nat.reduceLT, Int.reduceEq, Nat.reduceMul, q1, c1, q2, c2, hmid, c5, q3, q4, nat_succ, and_self]⟩
            · omega
            · omega
            · omega
            · omega
            · omega
            · omega
            · omega
            · assumption
            · exact fun _ _ h _ => h
            · exact id
      · have hp1 : ((d0 + m0 : Nat) : Int) - 1 = ((d0 + m0 - 1 : Nat) : Int) := by omega
        simp (maxDischargeDepth := 9) only [↓gB, gV, gT, reduceIte, reduceCtorEq, Nat.reduceEqDiff, Nat.reduceAdd, Nat.reduceSub, Nat.reduceLeDiff, Nat.reduceLT, Int.reduceEq, Nat.reduceMul, q1, c1, q2, c2, hmid, hk, f20, f21, f0, f1, f2, f3, f4, f18, f19, hp1]
        have q3 : Go.IntKind.i64.wrap (↑(d0 + m0)) = ↑(d0 + m0) := wrap_id (by omega)
        simp (maxDischargeDepth := 9) only [↓gB, gV, gT, reduceIte, reduceCtorEq, Nat.reduceEqDiff, Nat.reduceAdd, Nat.reduceSub, Nat.reduceLeDiff, Nat.reduceLT, Int.reduceEq, Nat.reduceMul, q1, c1, q2, c2, hmid, hk, f20, f21, f0, f1, f2, f3, f4, f18, f19, q3, hp1]
        have q4 : Go.IntKind.i64.wrap (↑(d0 + m0 - 1)) = ↑(d0 + m0 - 1) := wrap_id (by omega)
        simp (maxDischargeDepth := 9) only [↓gB, gV, gT, reduceIte, reduceCtorEq, Nat.reduceEqDiff, Nat.reduceAdd, Nat.reduceSub, Nat.reduceLeDiff, Nat.reduceLT, Int.reduceEq, Nat.reduceMul, q1, c1, q2, c2, hmid, hk, f20, f21, f0, f1, f2, f3, f4, f18, f19, q3, q4, hp1]
        focus
          refine Xloop_intro _ _ _ _ _ (fun k f G' => ∃ (s r : Nat), k = r - s ∧ (s0 ≤ s) ∧ (s ≤ r) ∧ (r ≤ r0) ∧ (s = s0 ∨ SymLo key xs (d0 + m0 - 1) (s - 1)) ∧ (r = r0 ∨ SymHi key xs (d0 + m0 - 1) r) ∧ (Row rRest 91 G0 G' (.slice a xs.length c) xs) ∧ (∀ b o, G b = some o → notAt (.slice a xs.length c) b → G' b = some o) ∧ (G0.le G → G0.le G') ∧ f 20 = V s ∧ f 21 = V r ∧ f 0 = Go.Value.slice a xs.length c ∧ f 1 = Go.GL.V ↑a0 ∧ f 2 = Go.GL.V ↑m0 ∧ f 3 = Go.GL.V ↑b0 ∧ f 4 = Go.Value.func (Go.Fn.func g) fa.toArray fb.toArray ∧ f 18 = Go.Value.int Go.IntKind.i64 ↑d0 ∧ f 19 = Go.Value.int Go.IntKind.i64 ↑(d0 + m0) ∧ f 22 = Go.Value.int Go.IntKind.i64 ↑(d0 + m0 - 1)) _ ⟨s0, r0, rfl, ?_, ?_, ?_, ?_, ?_, ?_, ?_, ?_, by simp (maxDischargeDepth := 9) only [↓gB, gV, gT, reduceIte, reduceCtorEq, Nat.reduceEqDiff, Nat.reduceAdd, Nat.reduceSub, Nat.reduceLeDiff, Nat.reduceLT, Int.reduceEq, Nat.reduceMul, q1, c1, q2, c2, hmid, hk, f20, f21, f0, f1, f2, f3, f4, f18, f19, q3, q4, and_self]⟩ ?_
          · omega
          · assumption
          · omega
          · omega
          · omega
          · assumption
          · assumption
          · assumption
          rintro k f G' ⟨s, r, rfl, h1, h2, h3, lo, hi, hrow, hk, hl, f20, f21, f0, f1, f2, f3, f4, f18, f19, f22⟩
        have hm := @mid_eq s r (by omega)
        simp (maxDischargeDepth := 9) only [↓gB, gV, gT, reduceIte, reduceCtorEq, Nat.reduceEqDiff, Nat.reduceAdd, Nat.reduceSub, Nat.reduceLeDiff, Nat.reduceLT, Int.reduceEq, Nat.reduceMul, q1, c1, q2, c2, hmid, hk, f20, f21, f0, f1, f2, f3, f4, f18, f19, q3, q4, hk, f20, f21, f0, f1, f2, f3, f4, f18, f19, f22, hm]
        refine Xc_split _ _ _ _ _ (fun c6 => ?_) (fun c6 => ?_)
        · obtain ⟨w, hw0⟩ : ∃ w, (s + r) / 2 = w := ⟨_, rfl⟩
          rw [hw0] at hm
          have hpw : ((d0 + m0 - 1 : Nat) : Int) - w = ((d0 + m0 - 1 - w : Nat) : Int) := by omega
          obtain ⟨x0, helx⟩ : ∃ x0, xs[w]? = some x0 := ⟨_, List.getElem?_eq_getElem (by omega)⟩
          obtain ⟨y0, hely⟩ : ∃ y0, xs[d0 + m0 - 1 - w]? = some y0 := ⟨_, List.getElem?_eq_getElem (by omega)⟩
          have hQx := hQ x0 (List.mem_of_getElem? helx)
          have hQy := hQ y0 (List.mem_of_getElem? hely)
          simp (maxDischargeDepth := 9) only [↓gB, gV, gT, reduceIte, reduceCtorEq, Nat.reduceEqDiff, Nat.reduceAdd, Nat.reduceSub, Nat.reduceLeDiff, Nat.reduceLT, Int.reduceEq, Nat.reduceMul, q1, c1, q2, c2, hmid, hk, f20, f21, f0, f1, f2, f3, f4, f18, f19, q3, q4, hk, f20, f21, f0, f1, f2, f3, f4, f18, f19, f22, c6, hm, hpw, hg']
          refine vguard_intro (by omega) ?_
          refine Xdraw_intro [0, 1, 2, 3, 4, 5, 6, 7, 8, 9, 10, 11, 12, 13] mixed (by kernel_rfl) (by decide +kernel) ?_
          simp (maxDischargeDepth := 9) only [↓gB, gV, gT, reduceIte, reduceCtorEq, Nat.reduceEqDiff, Nat.reduceAdd, Nat.reduceSub, Nat.reduceLeDiff, Nat.reduceLT, Int.reduceEq, Nat.reduceMul, q1, c1, q2, c2, hmid, hk, f20, f21, f0, f1, f2, f3, f4, f18, f19, q3, q4, hk, f20, f21, f0, f1, f2, f3, f4, f18, f19, f22, c6, hm, hpw, hg']
          have q5 : Go.IntKind.i64.wrap (↑(d0 + m0 - 1 - w)) = ↑(d0 + m0 - 1 - w) := wrap_id (by omega)
          simp (maxDischargeDepth := 9) only [↓gB, gV, gT, reduceIte, reduceCtorEq, Nat.reduceEqDiff, Nat.reduceAdd, Nat.reduceSub, Nat.reduceLeDiff, Nat.reduceLT, Int.reduceEq, Nat.reduceMul, q1, c1, q2, c2, hmid, hk, f20, f21, f0, f1, f2, f3, f4, f18, f19, q3, q4, hk, f20, f21, f0, f1, f2, f3, f4, f18, f19, f22, c6, hm, q5, hpw, hg']
          obtain ⟨x1, a1, s1, m1, rfl, rfl, e1⟩ := hrow.at (d0 + m0 - 1 - w) (by omega) 2 rfl
          obtain rfl := el_eq hely m1
          simp (maxDischargeDepth := 9) only [↓gB, gV, gT, reduceIte, reduceCtorEq, Nat.reduceEqDiff, Nat.reduceAdd, Nat.reduceSub, Nat.reduceLeDiff, Nat.reduceLT, Int.reduceEq, Nat.reduceMul, q1, c1, q2, c2, hmid, f20, f21, f1, f2, f3, f4, f18, f19, q3, q4, f20, f21, f1, f2, f3, f4, f18, f19, f22, c6, hm, q5, hk, f0, hk, f0, e1, hpw, hg']
          refine vguard_intro (by omega) ?_
          refine vguard_intro (by omega) ?_
          obtain ⟨x2, s2, m2, rfl, e2⟩ := hrow.at' (w) (by omega) 2 rfl
          obtain rfl := el_eq helx m2
          simp (maxDischargeDepth := 9) only [↓gB, gV, gT, reduceIte, reduceCtorEq, Nat.reduceEqDiff, Nat.reduceAdd, Nat.reduceSub, Nat.reduceLeDiff, Nat.reduceLT, Int.reduceEq, Nat.reduceMul, q1, c1, q2, c2, hmid, f20, f21, f1, f2, f3, f4, f18, f19, q3, q4, f20, f21, f1, f2, f3, f4, f18, f19, f22, c6, hm, q5, hk, f0, hk, f0, e1, e2, hpw, hg']
          refine Ycp (hf _ hk y0 x0 hQy hQx) ?_
          by_cases c7 : cf y0 x0 < 0
          · have c8 := (hcf _ _).1 c7
            focus
              simp (maxDischargeDepth := 9) only [↓gB, gV, gT, reduceIte, reduceCtorEq, Nat.reduceEqDiff, Nat.reduceAdd, Nat.reduceSub, Nat.reduceLeDiff, Nat.reduceLT, Int.reduceEq, Nat.reduceMul, q1, c1, q2, c2, hmid, f20, f21, f1, f2, f3, f4, f18, f19, q3, q4, f20, f21, f1, f2, f3, f4, f18, f19, f22, c6, hm, q5, hk, f0, hk, f0, e1, e2, c7, c8]
              have q6 : Go.IntKind.i64.wrap (↑s + ↑r) = ↑s + ↑r := wrap_id (by omega)
              simp (maxDischargeDepth := 9) only [↓gB, gV, gT, reduceIte, reduceCtorEq, Nat.reduceEqDiff, Nat.reduceAdd, Nat.reduceSub, Nat.reduceLeDiff, Nat.reduceLT, Int.reduceEq, Nat.reduceMul, q1, c1, q2, c2, hmid, f20, f21, f1, f2, f3, f4, f18, f19, q3, q4, f20, f21, f1, f2, f3, f4, f18, f19, f22, c6, hm, q5, hk, f0, hk, f0, e1, e2, c7, c8, q6]
              rw [N_lp]
              refine ⟨_, ?_, _, sub_refl _, s, w, rfl, ?_, ?_, ?_, ?_, ?_, ?_, ?_, ?_, by simp (maxDischargeDepth := 9) only [↓gB, gV, gT, reduceIte, reduceCtorEq, Nat.reduceEqDiff, Nat.reduceAdd, Nat.reduceSub, Nat.reduceLeDiff, Nat.reduceLT, Int.reduceEq, Nat.reduceMul, q1, c1, q2, c2, hmid, f20, f21, f1, f2, f3, f4, f18, f19, q3, q4, f20, f21, f1, f2, f3, f4, f18, f19, f22, c6, hm, q5, hk, f0, hk, f0, e1, e2, c7, c8, q6, nat_succ, and_self]⟩
              · omega
              · assumption
              · omega
              · omega
              · assumption
              · (exact .inr ⟨x0, y0, helx, hely, c8⟩; done)
              · assumption
              · assumption
              · assumption
          · have c8 := mt (hcf _ _).2 c7
            focus
              simp (maxDischargeDepth := 9) only [↓gB, gV, gT, reduceIte, reduceCtorEq, Nat.reduceEqDiff, Nat.reduceAdd, Nat.reduceSub, Nat.reduceLeDiff, Nat.reduceLT, Int.reduceEq, Nat.reduceMul, q1, c1, q2, c2, hmid, f20, f21, f1, f2, f3, f4, f18, f19, q3, q4, f20, f21, f1, f2, f3, f4, f18, f19, f22, c6, hm, q5, hk, f0, hk, f0, e1, e2, c7, c8]
              have q6 : Go.IntKind.i64.wrap (↑s + ↑r) = ↑s + ↑r := wrap_id (by omega)
              simp (maxDischargeDepth := 9) only [↓gB, gV, gT, reduceIte, reduceCtorEq, Nat.reduceEqDiff, Nat.reduceAdd, Nat.reduceSub, Nat.reduceLeDiff, Nat.reduceLT, Int.reduceEq, Nat.reduceMul, q1, c1, q2, c2, hmid, f20, f21, f1, f2, f3, f4, f18, f19, q3, q4, f20, f21, f1, f2, f3, f4, f18, f19, f22, c6, hm, q5, hk, f0, hk, f0, e1, e2, c7, c8, q6]
              have q7 : Go.IntKind.i64.wrap (↑w + 1) = ↑w + 1 := wrap_id (by omega)
              simp (maxDischargeDepth := 9) only [↓gB, gV, gT, reduceIte, reduceCtorEq, Nat.reduceEqDiff, Nat.reduceAdd, Nat.reduceSub, Nat.reduceLeDiff, Nat.reduceLT, Int.reduceEq, Nat.reduceMul, q1, c1, q2, c2, hmid, f20, f21, f1, f2, f3, f4, f18, f19, q3, q4, f20, f21, f1, f2, f3, f4, f18, f19, f22, c6, hm, q5, hk, f0, hk, f0, e1, e2, c7, c8, q6, q7]
              rw [N_lp]
              refine ⟨_, ?_, _, sub_refl _, w + 1, r, rfl, ?_, ?_, ?_, ?_, ?_, ?_, ?_, ?_, by simp (maxDischargeDepth := 9) only [↓gB, gV, gT, reduceIte, reduceCtorEq, Nat.reduceEqDiff, Nat.reduceAdd, Nat.reduceSub, Nat.reduceLeDiff, Nat.reduceLT, Int.reduceEq, Nat.reduceMul, q1, c1, q2, c2, hmid, f20, f21, f1, f2, f3, f4, f18, f19, q3, q4, f20, f21, f1, f2, f3, f4, f18, f19, f22, c6, hm, q5, hk, f0, hk, f0, e1, e2, c7, c8, q6, q7, nat_succ, and_self]⟩
              · omega
              · omega
              · omega
              · assumption
              · (exact .inr ⟨x0, y0, by simpa using helx, by simpa using hely, by omega⟩; done)
              · assumption
              · assumption
              · assumption
              · assumption
        · have esr : s = r := by omega
          subst esr
          obtain ⟨A1, A2, B1, B2, rfl, rfl, hc1, hc2, hc3, hc4⟩ := sym_cut (key := key) (S := S') (mid := d0) (s := s) hP hA hB rA rB (by omega) (by omega) (by omega) (by omega) (by omega) (by
            rw [← hX]
            rcases lo with h | h
            · rcases je with q | q
              · exact .inl (by omega)
              · exact .inr (.inl (by omega))
            · exact .inr (.inr h)) (by
            rw [← hX]
            rcases hi with h | h
            · rcases jf with q | q
              · exact .inl (by omega)
              · exact .inr (.inl (by omega))
            · exact .inr (.inr h))
          have es : ((d0 + m0 : Nat) : Int) - s = ((d0 + m0 - s : Nat) : Int) := by omega
          obtain ⟨e0, he0⟩ : ∃ e0, d0 + m0 - s = e0 := ⟨_, rfl⟩
          rw [he0] at es hc2
          obtain ⟨rA1, rA2, _⟩ := rise_app.1 rA
          obtain ⟨rB1, rB2, _⟩ := rise_app.1 rB
          rw [List.length_append] at hA hB hA0 hB0 hxl
          rw [List.length_append] at hxl
          have hQA1 : ∀ x ∈ A1, Q x := fun x hx => hQ x (by rw [hX]; simp [hx])
          have hQA2 : ∀ x ∈ A2, Q x := fun x hx => hQ x (by rw [hX]; simp [hx])
          have hQB1 : ∀ x ∈ B1, Q x := fun x hx => hQ x (by rw [hX]; simp [hx])
          have hQB2 : ∀ x ∈ B2, Q x := fun x hx => hQ x (by rw [hX]; simp [hx])
          have hQP : ∀ x ∈ P', Q x := fun x hx => hQ x (by rw [hX]; simp [hx])
          have hQS : ∀ x ∈ S', Q x := fun x hx => hQ x (by rw [hX]; simp [hx])
          simp (maxDischargeDepth := 9) only [↓gB, gV, gT, reduceIte, reduceCtorEq, Nat.reduceEqDiff, Nat.reduceAdd, Nat.reduceSub, Nat.reduceLeDiff, Nat.reduceLT, Int.reduceEq, Nat.reduceMul, q1, c1, q2, c2, hmid, hk, f20, f21, f0, f1, f2, f3, f4, f18, f19, q3, q4, hk, f20, f0, f1, f2, f3, f4, f18, f19, f22, f21, hm, c6, es]
          focus
            refine YwCut (J := fun f G' => (Row rRest 91 G0 G' (.slice a xs.length c) (P' ++ (A1 ++ (B1 ++ (A2 ++ (B2 ++ S')))))) ∧ (∀ b o, G b = some o → notAt (.slice a xs.length c) b → G' b = some o) ∧ (G0.le G → G0.le G') ∧ f 0 = Go.Value.slice a xs.length c ∧ f 1 = Go.GL.V ↑a0 ∧ f 3 = Go.GL.V ↑b0 ∧ f 4 = Go.Value.func (Go.Fn.func g) fa.toArray fb.toArray ∧ f 18 = Go.Value.int Go.IntKind.i64 ↑d0 ∧ f 20 = Go.GL.V ↑s ∧ f 24 = Go.Value.int Go.IntKind.i64 (Go.IntKind.i64.wrap ↑e0)) ?_ ?_
            rotate_left 1
            rintro f G' ⟨hrow, hk, hl, f0, f1, f3, f4, f18, f20, f24⟩
            rotate_right 1
          · by_cases c7 : (s : Int) < m0
            · by_cases c8 : (m0 : Int) < e0
              · simp (maxDischargeDepth := 9) only [↓gB, gV, gT, reduceIte, reduceCtorEq, Nat.reduceEqDiff, Nat.reduceAdd, Nat.reduceSub, Nat.reduceLeDiff, Nat.reduceLT, Int.reduceEq, Nat.reduceMul, q1, c1, q2, c2, hmid, hk, f20, f21, f0, f1, f2, f3, f4, f18, f19, q3, q4, hk, f20, f0, f1, f2, f3, f4, f18, f19, f22, f21, hm, c6, c7, c8]
                have q5 : Go.IntKind.i64.wrap (↑e0) = ↑e0 := wrap_id (by omega)
                simp (maxDischargeDepth := 9) only [↓gB, gV, gT, reduceIte, reduceCtorEq, Nat.reduceEqDiff, Nat.reduceAdd, Nat.reduceSub, Nat.reduceLeDiff, Nat.reduceLT, Int.reduceEq, Nat.reduceMul, q1, c1, q2, c2, hmid, hk, f20, f21, f0, f1, f2, f3, f4, f18, f19, q3, q4, hk, f20, f0, f1, f2, f3, f4, f18, f19, f22, f21, hm, c6, c7, c8, q5]
                refine Ycall_intro (md := none) (u110 (T' := P' ++ (A1 ++ (B1 ++ (A2 ++ (B2 ++ S'))))) hrow (by omega) (by omega) (by omega) ⟨P' ++ A1, A2, B1, B2 ++ S', by rw [hX]; simp, by rw [List.length_append]; omega, by omega, by omega, by simp⟩) ?_
                rintro u G2 ⟨rfl, hrow2, hk2, hl2⟩
                simp (maxDischargeDepth := 9) only [↓gB, gV, gT, reduceIte, reduceCtorEq, Nat.reduceEqDiff, Nat.reduceAdd, Nat.reduceSub, Nat.reduceLeDiff, Nat.reduceLT, Int.reduceEq, Nat.reduceMul, q1, c1, q2, c2, hmid, hk, f20, f21, f0, f1, f2, f3, f4, f18, f19, q3, q4, hk, f20, f0, f1, f2, f3, f4, f18, f19, f22, f21, hm, c6, c7, c8, q5, hk2]
                focus
                  rw [N_cut]
                  refine ⟨_, sub_refl _, ?_, ?_, ?_, by simp (maxDischargeDepth := 9) only [↓gB, gV, gT, reduceIte, reduceCtorEq, Nat.reduceEqDiff, Nat.reduceAdd, Nat.reduceSub, Nat.reduceLeDiff, Nat.reduceLT, Int.reduceEq, Nat.reduceMul, q1, c1, q2, c2, hmid, hk, f20, f21, f0, f1, f2, f3, f4, f18, f19, q3, q4, hk, f20, f0, f1, f2, f3, f4, f18, f19, f22, f21, hm, c6, c7, c8, q5, hk2, nat_succ, and_self]⟩
                  · assumption
                  · (exact fun b o q1 q2 => hk2 b o (hk b o q1 q2) q2; done)
                  · (exact fun q => hl2 (hl q); done)
              · have hB1 : B1 = [] := List.length_eq_zero_iff.1 (by omega)
                have hxe : xs = P' ++ (A1 ++ (B1 ++ (A2 ++ (B2 ++ S')))) := by rw [hX, hB1]; simp
                simp (maxDischargeDepth := 9) only [↓gB, gV, gT, reduceIte, reduceCtorEq, Nat.reduceEqDiff, Nat.reduceAdd, Nat.reduceSub, Nat.reduceLeDiff, Nat.reduceLT, Int.reduceEq, Nat.reduceMul, q1, c1, q2, c2, hmid, hk, f20, f21, f0, f1, f2, f3, f4, f18, f19, q3, q4, hk, f20, f0, f1, f2, f3, f4, f18, f19, f22, f21, hm, c6, c7, c8]
                have q5 : Go.IntKind.i64.wrap (↑e0) = ↑e0 := wrap_id (by omega)
                simp (maxDischargeDepth := 9) only [↓gB, gV, gT, reduceIte, reduceCtorEq, Nat.reduceEqDiff, Nat.reduceAdd, Nat.reduceSub, Nat.reduceLeDiff, Nat.reduceLT, Int.reduceEq, Nat.reduceMul, q1, c1, q2, c2, hmid, hk, f20, f21, f0, f1, f2, f3, f4, f18, f19, q3, q4, hk, f20, f0, f1, f2, f3, f4, f18, f19, f22, f21, hm, c6, c7, c8, q5]
                focus
                  rw [N_cut]
                  refine ⟨_, sub_refl _, ?_, ?_, ?_, by simp (maxDischargeDepth := 9) only [↓gB, gV, gT, reduceIte, reduceCtorEq, Nat.reduceEqDiff, Nat.reduceAdd, Nat.reduceSub, Nat.reduceLeDiff, Nat.reduceLT, Int.reduceEq, Nat.reduceMul, q1, c1, q2, c2, hmid, hk, f20, f21, f0, f1, f2, f3, f4, f18, f19, q3, q4, hk, f20, f0, f1, f2, f3, f4, f18, f19, f22, f21, hm, c6, c7, c8, q5, nat_succ, and_self]⟩
                  · (rw [← hxe]; assumption; done)
                  · assumption
                  · assumption
            · have hA2 : A2 = [] := List.length_eq_zero_iff.1 (by omega)
              have hxe : xs = P' ++ (A1 ++ (B1 ++ (A2 ++ (B2 ++ S')))) := by rw [hX, hA2]; simp
              simp (maxDischargeDepth := 9) only [↓gB, gV, gT, reduceIte, reduceCtorEq, Nat.reduceEqDiff, Nat.reduceAdd, Nat.reduceSub, Nat.reduceLeDiff, Nat.reduceLT, Int.reduceEq, Nat.reduceMul, q1, c1, q2, c2, hmid, hk, f20, f21, f0, f1, f2, f3, f4, f18, f19, q3, q4, hk, f20, f0, f1, f2, f3, f4, f18, f19, f22, f21, hm, c6, c7]
              have q5 : Go.IntKind.i64.wrap (↑e0) = ↑e0 := wrap_id (by omega)
              simp (maxDischargeDepth := 9) only [↓gB, gV, gT, reduceIte, reduceCtorEq, Nat.reduceEqDiff, Nat.reduceAdd, Nat.reduceSub, Nat.reduceLeDiff, Nat.reduceLT, Int.reduceEq, Nat.reduceMul, q1, c1, q2, c2, hmid, hk, f20, f21, f0, f1, f2, f3, f4, f18, f19, q3, q4, hk, f20, f0, f1, f2, f3, f4, f18, f19, f22, f21, hm, c6, c7, q5]
              focus
                rw [N_cut]
                refine ⟨_, sub_refl _, ?_, ?_, ?_, by simp (maxDischargeDepth := 9) only [↓gB, gV, gT, reduceIte, reduceCtorEq, Nat.reduceEqDiff, Nat.reduceAdd, Nat.reduceSub, Nat.reduceLeDiff, Nat.reduceLT, Int.reduceEq, Nat.reduceMul, q1, c1, q2, c2, hmid, hk, f20, f21, f0, f1, f2, f3, f4, f18, f19, q3, q4, hk, f20, f0, f1, f2, f3, f4, f18, f19, f22, f21, hm, c6, c7, q5, nat_succ, and_self]⟩
                · (rw [← hxe]; assumption; done)
                · assumption
                · assumption
          · simp (maxDischargeDepth := 9) only [↓gB, gV, gT, reduceIte, reduceCtorEq, Nat.reduceEqDiff, Nat.reduceAdd, Nat.reduceSub, Nat.reduceLeDiff, Nat.reduceLT, Int.reduceEq, Nat.reduceMul, q1, c1, q2, c2, hmid, hk, f20, f21, f0, f1, f2, f3, f4, f18, f19, q3, q4, hk, f20, f0, f1, f2, f3, f4, f18, f19, f22, f21, hm, c6, hk, f0, f1, f3, f4, f18, f20, f24]
            focus
              refine YwCut (J := fun f G' => ∃ (M1 : List SRest), (Rise key M1 ∧ SEq key (A1 ++ B1) M1) ∧ (Row rRest 91 G0 G' (.slice a xs.length c) (P' ++ (M1 ++ (A2 ++ (B2 ++ S'))))) ∧ (∀ b o, G b = some o → notAt (.slice a xs.length c) b → G' b = some o) ∧ (G0.le G → G0.le G') ∧ f 0 = Go.Value.slice a xs.length c ∧ f 3 = Go.GL.V ↑b0 ∧ f 4 = Go.Value.func (Go.Fn.func g) fa.toArray fb.toArray ∧ f 18 = Go.Value.int Go.IntKind.i64 ↑d0 ∧ f 24 = Go.Value.int Go.IntKind.i64 (Go.IntKind.i64.wrap ↑e0)) ?_ ?_
              rotate_left 1
              rintro f G' ⟨M1, hM1, hrow, hk, hl, f0, f3, f4, f18, f24⟩
              rotate_right 1
            · by_cases c7 : (a0 : Int) < s
              · by_cases c8 : (s : Int) < d0
                · simp (maxDischargeDepth := 9) only [↓gB, gV, gT, reduceIte, reduceCtorEq, Nat.reduceEqDiff, Nat.reduceAdd, Nat.reduceSub, Nat.reduceLeDiff, Nat.reduceLT, Int.reduceEq, Nat.reduceMul, q1, c1, q2, c2, hmid, hk, f20, f21, f0, f1, f2, f3, f4, f18, f19, q3, q4, hk, f20, f0, f1, f2, f3, f4, f18, f19, f22, f21, hm, c6, hk, f0, f1, f3, f4, f18, f20, f24, c7, c8]
                  refine Ycall_intro (md := none) (ih (P' := P') (A := A1) (B := B1) (S' := A2 ++ (B2 ++ S')) (a0 := a0) (m0 := s) (b0 := d0) (by omega) (by exact hrow) hP (by omega) (by omega) (by omega) (by omega) (by simp only [List.length_append]; omega) rA1 rB1 (by
                    intro x hx; simp only [List.mem_append] at hx
                    rcases hx with h | h | h | h | h | h
                    · exact hQP x h
                    · exact hQA1 x h
                    · exact hQB1 x h
                    · exact hQA2 x h
                    · exact hQB2 x h
                    · exact hQS x h) (fun G2 q x y => hf G2 (fun b o q1 q2 => q b o (hk b o q1 q2) q2) x y)) ?_
                  rintro u G2 ⟨rfl, M1, hrow2, hM1, hk2, hl2⟩
                  simp (maxDischargeDepth := 9) only [↓gB, gV, gT, reduceIte, reduceCtorEq, Nat.reduceEqDiff, Nat.reduceAdd, Nat.reduceSub, Nat.reduceLeDiff, Nat.reduceLT, Int.reduceEq, Nat.reduceMul, q1, c1, q2, c2, hmid, hk, f20, f21, f0, f1, f2, f3, f4, f18, f19, q3, q4, hk, f20, f0, f1, f2, f3, f4, f18, f19, f22, f21, hm, c6, hk, f0, f1, f3, f4, f18, f20, f24, c7, c8, hk2]
                  focus
                    rw [N_cut]
                    refine ⟨_, sub_refl _, M1, ?_, ?_, ?_, ?_, by simp (maxDischargeDepth := 9) only [↓gB, gV, gT, reduceIte, reduceCtorEq, Nat.reduceEqDiff, Nat.reduceAdd, Nat.reduceSub, Nat.reduceLeDiff, Nat.reduceLT, Int.reduceEq, Nat.reduceMul, q1, c1, q2, c2, hmid, hk, f20, f21, f0, f1, f2, f3, f4, f18, f19, q3, q4, hk, f20, f0, f1, f2, f3, f4, f18, f19, f22, f21, hm, c6, hk, f0, f1, f3, f4, f18, f20, f24, c7, c8, hk2, nat_succ, and_self]⟩
                    · assumption
                    · assumption
                    · (exact fun b o q1 q2 => hk2 b o (hk b o q1 q2) q2; done)
                    · (exact fun q => hl2 (hl q); done)
                · have hB1 : B1 = [] := List.length_eq_zero_iff.1 (by omega)
                  simp (maxDischargeDepth := 9) only [↓gB, gV, gT, reduceIte, reduceCtorEq, Nat.reduceEqDiff, Nat.reduceAdd, Nat.reduceSub, Nat.reduceLeDiff, Nat.reduceLT, Int.reduceEq, Nat.reduceMul, q1, c1, q2, c2, hmid, hk, f20, f21, f0, f1, f2, f3, f4, f18, f19, q3, q4, hk, f20, f0, f1, f2, f3, f4, f18, f19, f22, f21, hm, c6, hk, f0, f1, f3, f4, f18, f20, f24, c7, c8]
                  focus
                    rw [N_cut]
                    refine ⟨_, sub_refl _, A1 ++ B1, ?_, ?_, ?_, ?_, by simp (maxDischargeDepth := 9) only [↓gB, gV, gT, reduceIte, reduceCtorEq, Nat.reduceEqDiff, Nat.reduceAdd, Nat.reduceSub, Nat.reduceLeDiff, Nat.reduceLT, Int.reduceEq, Nat.reduceMul, q1, c1, q2, c2, hmid, hk, f20, f21, f0, f1, f2, f3, f4, f18, f19, q3, q4, hk, f20, f0, f1, f2, f3, f4, f18, f19, f22, f21, hm, c6, hk, f0, f1, f3, f4, f18, f20, f24, c7, c8, nat_succ, and_self]⟩
                    · ((subst hB1; exact ⟨by simpa using rA1, .refl _⟩); done)
                    · (simpa using hrow; done)
                    · assumption
                    · assumption
              · have hA1 : A1 = [] := List.length_eq_zero_iff.1 (by omega)
                simp (maxDischargeDepth := 9) only [↓gB, gV, gT, reduceIte, reduceCtorEq, Nat.reduceEqDiff, Nat.reduceAdd, Nat.reduceSub, Nat.reduceLeDiff, Nat.reduceLT, Int.reduceEq, Nat.reduceMul, q1, c1, q2, c2, hmid, hk, f20, f21, f0, f1, f2, f3, f4, f18, f19, q3, q4, hk, f20, f0, f1, f2, f3, f4, f18, f19, f22, f21, hm, c6, hk, f0, f1, f3, f4, f18, f20, f24, c7]
                focus
                  rw [N_cut]
                  refine ⟨_, sub_refl _, A1 ++ B1, ?_, ?_, ?_, ?_, by simp (maxDischargeDepth := 9) only [↓gB, gV, gT, reduceIte, reduceCtorEq, Nat.reduceEqDiff, Nat.reduceAdd, Nat.reduceSub, Nat.reduceLeDiff, Nat.reduceLT, Int.reduceEq, Nat.reduceMul, q1, c1, q2, c2, hmid, hk, f20, f21, f0, f1, f2, f3, f4, f18, f19, q3, q4, hk, f20, f0, f1, f2, f3, f4, f18, f19, f22, f21, hm, c6, hk, f0, f1, f3, f4, f18, f20, f24, c7, nat_succ, and_self]⟩
                  · ((subst hA1; exact ⟨by simpa using rB1, .refl _⟩); done)
                  · (simpa using hrow; done)
                  · assumption
                  · assumption
            · have hML := seq_perm hM1.2
              rw [List.length_append] at hML
              have hQM : ∀ x ∈ M1, Q x := fun x hx => by
                rcases List.mem_append.1 (hM1.2.symm.mem hx) with h | h
                · exact hQA1 x h
                · exact hQB1 x h
              by_cases c7 : (d0 : Int) < e0
              · by_cases c8 : (e0 : Int) < b0
                · simp (maxDischargeDepth := 9) only [↓gB, gV, gT, reduceIte, reduceCtorEq, Nat.reduceEqDiff, Nat.reduceAdd, Nat.reduceSub, Nat.reduceLeDiff, Nat.reduceLT, Int.reduceEq, Nat.reduceMul, q1, c1, q2, c2, hmid, hk, f20, f21, f0, f1, f2, f3, f4, f18, f19, q3, q4, hk, f20, f0, f1, f2, f3, f4, f18, f19, f22, f21, hm, c6, hk, f0, f1, f3, f4, f18, f20, f24, hk, f0, f3, f4, f18, f24, c7, c8]
                  have q5 : Go.IntKind.i64.wrap (↑e0) = ↑e0 := wrap_id (by omega)
                  simp (maxDischargeDepth := 9) only [↓gB, gV, gT, reduceIte, reduceCtorEq, Nat.reduceEqDiff, Nat.reduceAdd, Nat.reduceSub, Nat.reduceLeDiff, Nat.reduceLT, Int.reduceEq, Nat.reduceMul, q1, c1, q2, c2, hmid, hk, f20, f21, f0, f1, f2, f3, f4, f18, f19, q3, q4, hk, f20, f0, f1, f2, f3, f4, f18, f19, f22, f21, hm, c6, hk, f0, f1, f3, f4, f18, f20, f24, hk, f0, f3, f4, f18, f24, c7, c8, q5]
                  refine Ycall_intro (md := none) (ih (P' := P' ++ M1) (A := A2) (B := B2) (S' := S') (a0 := d0) (m0 := e0) (b0 := b0) (by omega) (by rw [List.append_assoc]; exact hrow) (by rw [List.length_append]; omega) (by omega) (by omega) (by omega) (by omega) (by simp only [List.length_append]; omega) rA2 rB2 (by
                    intro x hx; simp only [List.mem_append] at hx
                    rcases hx with (h | h) | h | h | h
                    · exact hQP x h
                    · exact hQM x h
                    · exact hQA2 x h
                    · exact hQB2 x h
                    · exact hQS x h) (fun G2 q x y => hf G2 (fun b o q1 q2 => q b o (hk b o q1 q2) q2) x y)) ?_
                  rintro u G2 ⟨rfl, M2, hrow2, hM2, hk2, hl2⟩
                  simp (maxDischargeDepth := 9) only [↓gB, gV, gT, reduceIte, reduceCtorEq, Nat.reduceEqDiff, Nat.reduceAdd, Nat.reduceSub, Nat.reduceLeDiff, Nat.reduceLT, Int.reduceEq, Nat.reduceMul, q1, c1, q2, c2, hmid, hk, f20, f21, f0, f1, f2, f3, f4, f18, f19, q3, q4, hk, f20, f0, f1, f2, f3, f4, f18, f19, f22, f21, hm, c6, hk, f0, f1, f3, f4, f18, f20, f24, hk, f0, f3, f4, f18, f24, c7, c8, q5, hk2]
                  exact Kup_same ⟨rfl, M1 ++ M2, by simpa using hrow2, merge_halves rA rB hc3 hc4 hM1.1 hM2.1 hM1.2 hM2.2, fun b o q1 q2 => hk2 b o (hk b o q1 q2) q2, fun q => hl2 (hl q)⟩
                · have hB2 : B2 = [] := List.length_eq_zero_iff.1 (by omega)
                  simp (maxDischargeDepth := 9) only [↓gB, gV, gT, reduceIte, reduceCtorEq, Nat.reduceEqDiff, Nat.reduceAdd, Nat.reduceSub, Nat.reduceLeDiff, Nat.reduceLT, Int.reduceEq, Nat.reduceMul, q1, c1, q2, c2, hmid, hk, f20, f21, f0, f1, f2, f3, f4, f18, f19, q3, q4, hk, f20, f0, f1, f2, f3, f4, f18, f19, f22, f21, hm, c6, hk, f0, f1, f3, f4, f18, f20, f24, hk, f0, f3, f4, f18, f24, c7, c8]
                  have q5 : Go.IntKind.i64.wrap (↑e0) = ↑e0 := wrap_id (by omega)
                  simp (maxDischargeDepth := 9) only [↓gB, gV, gT, reduceIte, reduceCtorEq, Nat.reduceEqDiff, Nat.reduceAdd, Nat.reduceSub, Nat.reduceLeDiff, Nat.reduceLT, Int.reduceEq, Nat.reduceMul, q1, c1, q2, c2, hmid, hk, f20, f21, f0, f1, f2, f3, f4, f18, f19, q3, q4, hk, f20, f0, f1, f2, f3, f4, f18, f19, f22, f21, hm, c6, hk, f0, f1, f3, f4, f18, f20, f24, hk, f0, f3, f4, f18, f24, c7, c8, q5]
                  exact Kup_same ⟨rfl, M1 ++ (A2 ++ B2), by simpa using hrow, merge_halves rA rB hc3 hc4 hM1.1 (by subst hB2; simpa using rA2) hM1.2 (.refl _), hk, hl⟩
              · have hA2 : A2 = [] := List.length_eq_zero_iff.1 (by omega)
                simp (maxDischargeDepth := 9) only [↓gB, gV, gT, reduceIte, reduceCtorEq, Nat.reduceEqDiff, Nat.reduceAdd, Nat.reduceSub, Nat.reduceLeDiff, Nat.reduceLT, Int.reduceEq, Nat.reduceMul, q1, c1, q2, c2, hmid, hk, f20, f21, f0, f1, f2, f3, f4, f18, f19, q3, q4, hk, f20, f0, f1, f2, f3, f4, f18, f19, f22, f21, hm, c6, hk, f0, f1, f3, f4, f18, f20, f24, hk, f0, f3, f4, f18, f24, c7]
                have q5 : Go.IntKind.i64.wrap (↑e0) = ↑e0 := wrap_id (by omega)
                simp (maxDischargeDepth := 9) only [↓gB, gV, gT, reduceIte, reduceCtorEq, Nat.reduceEqDiff, Nat.reduceAdd, Nat.reduceSub, Nat.reduceLeDiff, Nat.reduceLT, Int.reduceEq, Nat.reduceMul, q1, c1, q2, c2, hmid, hk, f20, f21, f0, f1, f2, f3, f4, f18, f19, q3, q4, hk, f20, f0, f1, f2, f3, f4, f18, f19, f22, f21, hm, c6, hk, f0, f1, f3, f4, f18, f20, f24, hk, f0, f3, f4, f18, f24, c7, q5]
                exact Kup_same ⟨rfl, M1 ++ (A2 ++ B2), by simpa using hrow, merge_halves rA rB hc3 hc4 hM1.1 (by subst hA2; simpa using rB2) hM1.2 (.refl _), hk, hl⟩
end Go.Proofs.YtdepecjjahodjaaDoor
namespace Go.Proofs.YtdepecjjahodjaaDoor
open Go Go.GL
attribute [local irreducible] Ycall GCalls
set_option maxRecDepth 10000
set_option maxHeartbeats 0
theorem u76 {cf : SRest → SRest → Int} {key : SRest → Int} {Q : SRest → Prop} {g : Nat} {fa fb : List Value} (hg : GL.Enters Tryd.prog g) (hcf : ∀ x y, cf x y < 0 ↔ key x < key y) {G0 G : GH} {v : Value} {xs : List SRest} {n : Nat} (hrow : Row rRest 91 G0 G v xs) (hn : n = xs.length) (hb : xs.length ≤ 1000000000) (hQ : ∀ x ∈ xs, Q x) (hf : ∀ (G' : GH), (∀ b o, G b = some o → notAt v b → G' b = some o) → ∀ x y, Q x → Q y → Pure Tryd.prog G' g (fa ++ [.agg #[V x.i, .int .u64 x.left], .agg #[V y.i, .int .u64 y.left]] ++ fb) (V (cf x y))) :
    GCalls Tryd.prog 76 [v, V n, .func (.func g) fa.toArray fb.toArray].toArray G (fun u G' => u = .tuple #[] ∧ Row rRest 91 G0 G' v (isort cf xs) ∧ (∀ b o, G b = some o → notAt v b → G' b = some o) ∧ (G0.le G → G0.le G')) := by
  subst hn
  obtain ⟨a, c, rfl⟩ := hrow.val
  refine enter Tryd.func76 63 #[] rfl Tryd.ntmps76 rfl (by decide +kernel) rfl ?_
  simp (maxDischargeDepth := 9) only [↓gB, gV, gT, reduceIte, reduceCtorEq, Nat.reduceEqDiff, Nat.reduceAdd, Nat.reduceSub, Nat.reduceLeDiff, Nat.reduceLT, Int.reduceEq, Nat.reduceMul]
  focus
    refine Xloop_intro _ _ _ _ _ (fun k f G' => ∃ (t : Nat) (P0 Pd S0 : List SRest), k = xs.length - t ∧ (xs = P0 ++ S0) ∧ (P0.length = t) ∧ (BlkL key 20 P0 Pd) ∧ (Row rRest 91 G0 G' (.slice a xs.length c) (Pd ++ S0)) ∧ (∀ b o, G b = some o → notAt (.slice a xs.length c) b → G' b = some o) ∧ (G0.le G → G0.le G') ∧ f 7 = V t ∧ f 8 = V ((t + 20 : Nat) : Int) ∧ f 6 = V 20 ∧ f 0 = Go.Value.slice a xs.length c ∧ f 1 = Go.GL.V ↑xs.length ∧ f 2 = Go.Value.func (Go.Fn.func g) fa.toArray fb.toArray) _ ⟨0, [], [], xs, rfl, ?_, ?_, ?_, ?_, ?_, ?_, by simp (maxDischargeDepth := 9) only [↓gB, gV, gT, reduceIte, reduceCtorEq, Nat.reduceEqDiff, Nat.reduceAdd, Nat.reduceSub, Nat.reduceLeDiff, Nat.reduceLT, Int.reduceEq, Nat.reduceMul, Int.natCast_zero, Int.zero_add, Int.cast_ofNat_Int, Nat.zero_add, and_self]⟩ ?_
    · rfl
    · rfl
    · (exact BlkL.nil; done)
    · assumption
    · exact fun _ _ h _ => h
    · exact id
    rintro k f G' ⟨t, P0, Pd, S0, rfl, hx, hpl, hB, hrow, hk, hl, f7, f8, f6, f0, f1, f2⟩
  have hxl : xs.length = P0.length + S0.length := by rw [hx]; simp
  have hbl := hB.len
  have hQD : ∀ x ∈ Pd ++ S0, Q x := fun x h => hQ x (by rw [hx]; rcases List.mem_append.1 h with h | h; exact List.mem_append_left _ (hB.mem h); exact List.mem_append_right _ h)
  simp (maxDischargeDepth := 9) only [↓gB, gV, gT, reduceIte, reduceCtorEq, Nat.reduceEqDiff, Nat.reduceAdd, Nat.reduceSub, Nat.reduceLeDiff, Nat.reduceLT, Int.reduceEq, Nat.reduceMul, hk, f7, f8, f6, f0, f1, f2]
  refine Xc_split _ _ _ _ _ (fun c1 => ?_) (fun c1 => ?_)
  · simp (maxDischargeDepth := 9) only [↓gB, gV, gT, reduceIte, reduceCtorEq, Nat.reduceEqDiff, Nat.reduceAdd, Nat.reduceSub, Nat.reduceLeDiff, Nat.reduceLT, Int.reduceEq, Nat.reduceMul, hk, f7, f8, f6, f0, f1, f2, c1]
    refine Ycall_intro (md := none) (u92 hg hcf (P' := Pd) (A := S0.take 20) (S' := S0.drop 20) (a0 := t) (b0 := t + 20) (by rw [List.take_append_drop]; exact hrow) (by omega) (by rw [List.length_take]; omega) (by rw [List.take_append_drop, List.length_append]; omega) (by rw [List.take_append_drop]; exact hQD) (fun G2 q x y => hf G2 (fun b o q1 q2 => q b o (hk b o q1 q2) q2) x y)) ?_
    rintro u G2 ⟨rfl, M, hrow2, hM, hk2, hl2⟩
    have hst : BlkL key 20 (P0 ++ S0.take 20) (Pd ++ M) := hB.snoc (by rw [List.length_take]; omega) hM
    have ht20 : ((t + 20 : Nat) : Int) + 20 = ((t + 20 + 20 : Nat) : Int) := by omega
    focus
      simp (maxDischargeDepth := 9) only [↓gB, gV, gT, reduceIte, reduceCtorEq, Nat.reduceEqDiff, Nat.reduceAdd, Nat.reduceSub, Nat.reduceLeDiff, Nat.reduceLT, Int.reduceEq, Nat.reduceMul, hk, f7, f8, f6, f0, f1, f2, c1, hk2, ht20]
      have q1 : Go.IntKind.i64.wrap (↑(t + 20 + 20)) = ↑(t + 20 + 20) := wrap_id (by omega)
      simp (maxDischargeDepth := 9) only [↓gB, gV, gT, reduceIte, reduceCtorEq, Nat.reduceEqDiff, Nat.reduceAdd, Nat.reduceSub, Nat.reduceLeDiff, Nat.reduceLT, Int.reduceEq, Nat.reduceMul, hk, f7, f8, f6, f0, f1, f2, c1, hk2, q1, ht20]
      rw [N_lp]
      refine ⟨_, ?_, _, sub_refl _, t + 20, P0 ++ S0.take 20, Pd ++ M, S0.drop 20, rfl, ?_, ?_, ?_, ?_, ?_, ?_, by simp (maxDischargeDepth := 9) only [↓gB, gV, gT, reduceIte, reduceCtorEq, Nat.reduceEqDiff, Nat.reduceAdd, Nat.reduceSub, Nat.reduceLeDiff, Nat.reduceLT, Int.reduceEq, Nat.reduceMul, hk, f7, f8, f6, f0, f1, f2, c1, hk2, q1, ht20, nat_succ, and_self]⟩
      · omega
      · ((rw [List.append_assoc, List.take_append_drop]; exact hx); done)
      · ((rw [List.length_append, List.length_take]; omega); done)
      · assumption
      · ((rw [List.append_assoc]; exact hrow2); done)
      · (exact fun b o q1 q2 => hk2 b o (hk b o q1 q2) q2; done)
      · (exact fun q => hl2 (hl q); done)
  · simp (maxDischargeDepth := 9) only [↓gB, gV, gT, reduceIte, reduceCtorEq, Nat.reduceEqDiff, Nat.reduceAdd, Nat.reduceSub, Nat.reduceLeDiff, Nat.reduceLT, Int.reduceEq, Nat.reduceMul, hk, f7, f8, f6, f0, f1, f2, c1]
    refine Ycall_intro (md := none) (u92 hg hcf (P' := Pd) (A := S0) (S' := []) (a0 := t) (b0 := xs.length) (by rw [List.append_nil]; exact hrow) (by omega) (by omega) (by rw [List.append_nil, List.length_append]; omega) (by rw [List.append_nil]; exact hQD) (fun G2 q x y => hf G2 (fun b o q1 q2 => q b o (hk b o q1 q2) q2) x y)) ?_
    rintro u G2 ⟨rfl, M, hrow2, hM, hk2, hl2⟩
    have hBT : BT key 20 xs (Pd ++ M) := by rw [hx]; exact hB.app (.tail (by omega) hM)
    rw [List.append_nil] at hrow2
    simp (maxDischargeDepth := 9) only [↓gB, gV, gT, reduceIte, reduceCtorEq, Nat.reduceEqDiff, Nat.reduceAdd, Nat.reduceSub, Nat.reduceLeDiff, Nat.reduceLT, Int.reduceEq, Nat.reduceMul, hk, f7, f8, f6, f0, f1, f2, c1, hk2]
    focus
      refine Xloop_intro _ _ _ _ _ (fun k f G' => ∃ (z : Nat) (D : List SRest), k = 2 * xs.length - z ∧ (20 ≤ z) ∧ (z ≤ 4000000000) ∧ (BT key z xs D) ∧ (Row rRest 91 G0 G' (.slice a xs.length c) D) ∧ (∀ b o, G b = some o → notAt (.slice a xs.length c) b → G' b = some o) ∧ (G0.le G → G0.le G') ∧ f 6 = V z ∧ f 0 = Go.Value.slice a xs.length c ∧ f 1 = Go.GL.V ↑xs.length ∧ f 2 = Go.Value.func (Go.Fn.func g) fa.toArray fb.toArray) _ ⟨20, Pd ++ M, rfl, ?_, ?_, ?_, ?_, ?_, ?_, by simp (maxDischargeDepth := 9) only [↓gB, gV, gT, reduceIte, reduceCtorEq, Nat.reduceEqDiff, Nat.reduceAdd, Nat.reduceSub, Nat.reduceLeDiff, Nat.reduceLT, Int.reduceEq, Nat.reduceMul, hk, f7, f8, f6, f0, f1, f2, c1, hk2, Int.cast_ofNat_Int, and_self]⟩ ?_
      · omega
      · omega
      · assumption
      · assumption
      · (exact fun b o q1 q2 => hk2 b o (hk b o q1 q2) q2; done)
      · (exact fun q => hl2 (hl q); done)
      rintro k f G' ⟨z, D, rfl, hz, hz2, hBT, hrow, hk, hl, f6, f0, f1, f2⟩
    simp (maxDischargeDepth := 9) only [↓gB, gV, gT, reduceIte, reduceCtorEq, Nat.reduceEqDiff, Nat.reduceAdd, Nat.reduceSub, Nat.reduceLeDiff, Nat.reduceLT, Int.reduceEq, Nat.reduceMul, hk, f7, f8, f6, f0, f1, f2, c1, hk2, hk, f6, f0, f1, f2]
    refine Xc_split _ _ _ _ _ (fun c2 => ?_) (fun c2 => ?_)
    · have hzz : (2 : Int) * z = ((2 * z : Nat) : Int) := by omega
      have hzz' : (z : Int) * 2 = ((2 * z : Nat) : Int) := by omega
      simp (maxDischargeDepth := 9) only [↓gB, gV, gT, reduceIte, reduceCtorEq, Nat.reduceEqDiff, Nat.reduceAdd, Nat.reduceSub, Nat.reduceLeDiff, Nat.reduceLT, Int.reduceEq, Nat.reduceMul, hk, f7, f8, f6, f0, f1, f2, c1, hk2, hk, f6, f0, f1, f2, c2, hzz]
      have q1 : Go.IntKind.i64.wrap (↑(2 * z)) = ↑(2 * z) := wrap_id (by omega)
      simp (maxDischargeDepth := 9) only [↓gB, gV, gT, reduceIte, reduceCtorEq, Nat.reduceEqDiff, Nat.reduceAdd, Nat.reduceSub, Nat.reduceLeDiff, Nat.reduceLT, Int.reduceEq, Nat.reduceMul, hk, f7, f8, f6, f0, f1, f2, c1, hk2, hk, f6, f0, f1, f2, c2, q1, hzz]
      focus
        refine Xloop_intro _ _ _ _ _ (fun k f G' => ∃ (t : Nat) (Q0 Qd S0 Sd : List SRest), k = xs.length - t ∧ (xs = Q0 ++ S0) ∧ (Q0.length = t) ∧ (BlkL key (2 * z) Q0 Qd) ∧ (BT key z S0 Sd) ∧ (Row rRest 91 G0 G' (.slice a xs.length c) (Qd ++ Sd)) ∧ (∀ b o, G b = some o → notAt (.slice a xs.length c) b → G' b = some o) ∧ (G0.le G → G0.le G') ∧ f 7 = V t ∧ f 8 = V ((t + 2 * z : Nat) : Int) ∧ f 0 = Go.Value.slice a xs.length c ∧ f 1 = Go.GL.V ↑xs.length ∧ f 2 = Go.Value.func (Go.Fn.func g) fa.toArray fb.toArray ∧ f 6 = Go.GL.V ↑z) _ ⟨0, [], [], xs, D, rfl, ?_, ?_, ?_, ?_, ?_, ?_, ?_, by simp (maxDischargeDepth := 9) only [↓gB, gV, gT, reduceIte, reduceCtorEq, Nat.reduceEqDiff, Nat.reduceAdd, Nat.reduceSub, Nat.reduceLeDiff, Nat.reduceLT, Int.reduceEq, Nat.reduceMul, hk, f7, f8, f6, f0, f1, f2, c1, hk2, hk, f6, f0, f1, f2, c2, q1, Int.natCast_zero, Nat.zero_add, hzz, and_self]⟩ ?_
        · rfl
        · rfl
        · (exact BlkL.nil; done)
        · assumption
        · assumption
        · assumption
        · assumption
        rintro k f G' ⟨t, Q0, Qd, S0, Sd, rfl, hx, hpl, hB, hS, hrow, hk, hl, f7, f8, f0, f1, f2, f6⟩
      have hxl : xs.length = Q0.length + S0.length := by rw [hx]; simp
      have hbl := hB.len
      have hsl := hS.len
      have hQD : ∀ x ∈ Qd ++ Sd, Q x := fun x h => hQ x (by rw [hx]; rcases List.mem_append.1 h with h | h; exact List.mem_append_left _ (hB.mem h); exact List.mem_append_right _ (hS.mem h))
      have htz : (t : Int) + z = ((t + z : Nat) : Int) := by omega
      simp (maxDischargeDepth := 9) only [↓gB, gV, gT, reduceIte, reduceCtorEq, Nat.reduceEqDiff, Nat.reduceAdd, Nat.reduceSub, Nat.reduceLeDiff, Nat.reduceLT, Int.reduceEq, Nat.reduceMul, hk, f7, f8, f6, f0, f1, f2, c1, hk2, hk, f6, f0, f1, f2, c2, q1, hk, f7, f8, f0, f1, f2, f6]
      refine Xc_split _ _ _ _ _ (fun c3 => ?_) (fun c3 => ?_)
      · obtain ⟨X1, X1', X2, X2', R0, R, rfl, rfl, h1, h2, h3, h4, h5⟩ := hS.two (by omega) (by omega)
        have g1 := h3.len
        have g2 := h4.len
        simp only [List.length_append] at hxl hsl
        simp (maxDischargeDepth := 9) only [↓gB, gV, gT, reduceIte, reduceCtorEq, Nat.reduceEqDiff, Nat.reduceAdd, Nat.reduceSub, Nat.reduceLeDiff, Nat.reduceLT, Int.reduceEq, Nat.reduceMul, hk, f7, f8, f6, f0, f1, f2, c1, hk2, hk, f6, f0, f1, f2, c2, q1, hk, f7, f8, f0, f1, f2, f6, c3, htz]
        have q2 : Go.IntKind.i64.wrap (↑(t + z)) = ↑(t + z) := wrap_id (by omega)
        simp (maxDischargeDepth := 9) only [↓gB, gV, gT, reduceIte, reduceCtorEq, Nat.reduceEqDiff, Nat.reduceAdd, Nat.reduceSub, Nat.reduceLeDiff, Nat.reduceLT, Int.reduceEq, Nat.reduceMul, hk, f7, f8, f6, f0, f1, f2, c1, hk2, hk, f6, f0, f1, f2, c2, q1, hk, f7, f8, f0, f1, f2, f6, c3, q2, htz]
        refine Ycall_intro (md := none) (u93 hg hcf xs.length (P' := Qd) (A := X1') (B := X2') (S' := R) (a0 := t) (m0 := t + z) (b0 := t + 2 * z) (by omega) hrow (by omega) (by omega) (by omega) (by omega) (by omega) (by simp only [List.length_append]; omega) h3.1 h4.1 hQD (fun G2 q x y => hf G2 (fun b o q1 q2 => q b o (hk b o q1 q2) q2) x y)) ?_
        rintro u G2 ⟨rfl, M, hrow2, hM, hk2, hl2⟩
        have hst : BlkL key (2 * z) (Q0 ++ (X1 ++ X2)) (Qd ++ M) := hB.snoc (by rw [List.length_append]; omega) (sort_merge h3 h4 hM)
        have htt : ((t + 2 * z : Nat) : Int) + ((2 * z : Nat) : Int) = ((t + 2 * z + 2 * z : Nat) : Int) := by omega
        focus
          simp (maxDischargeDepth := 9) only [↓gB, gV, gT, reduceIte, reduceCtorEq, Nat.reduceEqDiff, Nat.reduceAdd, Nat.reduceSub, Nat.reduceLeDiff, Nat.reduceLT, Int.reduceEq, Nat.reduceMul, hk, f7, f8, f6, f0, f1, f2, c1, hk2, hk, f6, f0, f1, f2, c2, q1, hk, f7, f8, f0, f1, f2, f6, c3, q2, hk2, hzz, htt]
          have q3 : Go.IntKind.i64.wrap (↑(t + 2 * z + 2 * z)) = ↑(t + 2 * z + 2 * z) := wrap_id (by omega)
          simp (maxDischargeDepth := 9) only [↓gB, gV, gT, reduceIte, reduceCtorEq, Nat.reduceEqDiff, Nat.reduceAdd, Nat.reduceSub, Nat.reduceLeDiff, Nat.reduceLT, Int.reduceEq, Nat.reduceMul, hk, f7, f8, f6, f0, f1, f2, c1, hk2, hk, f6, f0, f1, f2, c2, q1, hk, f7, f8, f0, f1, f2, f6, c3, q2, hk2, q3, hzz, htt]
          rw [N_lp]
          refine ⟨_, ?_, _, sub_refl _, t + 2 * z, Q0 ++ (X1 ++ X2), Qd ++ M, R0, R, rfl, ?_, ?_, ?_, ?_, ?_, ?_, ?_, by simp (maxDischargeDepth := 9) only [↓gB, gV, gT, reduceIte, reduceCtorEq, Nat.reduceEqDiff, Nat.reduceAdd, Nat.reduceSub, Nat.reduceLeDiff, Nat.reduceLT, Int.reduceEq, Nat.reduceMul, hk, f7, f8, f6, f0, f1, f2, c1, hk2, hk, f6, f0, f1, f2, c2, q1, hk, f7, f8, f0, f1, f2, f6, c3, q2, hk2, q3, hzz, htt, nat_succ, and_self]⟩
          · omega
          · ((simpa using hx); done)
          · ((simp only [List.length_append]; omega); done)
          · assumption
          · assumption
          · ((rw [List.append_assoc]; exact hrow2); done)
          · (exact fun b o q1 q2 => hk2 b o (hk b o q1 q2) q2; done)
          · (exact fun q => hl2 (hl q); done)
      · simp (maxDischargeDepth := 9) only [↓gB, gV, gT, reduceIte, reduceCtorEq, Nat.reduceEqDiff, Nat.reduceAdd, Nat.reduceSub, Nat.reduceLeDiff, Nat.reduceLT, Int.reduceEq, Nat.reduceMul, hk, f7, f8, f6, f0, f1, f2, c1, hk2, hk, f6, f0, f1, f2, c2, q1, hk, f7, f8, f0, f1, f2, f6, c3, htz]
        have q2 : Go.IntKind.i64.wrap (↑(t + z)) = ↑(t + z) := wrap_id (by omega)
        simp (maxDischargeDepth := 9) only [↓gB, gV, gT, reduceIte, reduceCtorEq, Nat.reduceEqDiff, Nat.reduceAdd, Nat.reduceSub, Nat.reduceLeDiff, Nat.reduceLT, Int.reduceEq, Nat.reduceMul, hk, f7, f8, f6, f0, f1, f2, c1, hk2, hk, f6, f0, f1, f2, c2, q1, hk, f7, f8, f0, f1, f2, f6, c3, q2, htz]
        refine Xc_split _ _ _ _ _ (fun c4 => ?_) (fun c4 => ?_)
        · obtain ⟨X1, X1', X2, X2', rfl, rfl, h1, h3, h4⟩ := hS.rest (by omega) (by omega)
          have g1 := h3.len
          have g2 := h4.len
          simp only [List.length_append] at hxl hsl
          simp (maxDischargeDepth := 9) only [↓gB, gV, gT, reduceIte, reduceCtorEq, Nat.reduceEqDiff, Nat.reduceAdd, Nat.reduceSub, Nat.reduceLeDiff, Nat.reduceLT, Int.reduceEq, Nat.reduceMul, hk, f7, f8, f6, f0, f1, f2, c1, hk2, hk, f6, f0, f1, f2, c2, q1, hk, f7, f8, f0, f1, f2, f6, c3, q2, c4]
          refine Ycall_intro (md := none) (u93 hg hcf xs.length (P' := Qd) (A := X1') (B := X2') (S' := []) (a0 := t) (m0 := t + z) (b0 := xs.length) (by omega) (by rw [List.append_nil]; exact hrow) (by omega) (by omega) (by omega) (by omega) (by omega) (by simp only [List.length_append, List.length_nil]; omega) h3.1 h4.1 (by rw [List.append_nil]; exact hQD) (fun G2 q x y => hf G2 (fun b o q1 q2 => q b o (hk b o q1 q2) q2) x y)) ?_
          rintro u G2 ⟨rfl, M, hrow2, hM, hk2, hl2⟩
          have hst : BT key (2 * z) xs (Qd ++ M) := by rw [hx]; exact hB.app (.tail (by rw [List.length_append]; omega) (sort_merge h3 h4 hM))
          rw [List.append_nil] at hrow2
          focus
            simp (maxDischargeDepth := 9) only [↓gB, gV, gT, reduceIte, reduceCtorEq, Nat.reduceEqDiff, Nat.reduceAdd, Nat.reduceSub, Nat.reduceLeDiff, Nat.reduceLT, Int.reduceEq, Nat.reduceMul, hk, f7, f8, f6, f0, f1, f2, c1, hk2, hk, f6, f0, f1, f2, c2, q1, hk, f7, f8, f0, f1, f2, f6, c3, q2, c4, hk2, hzz']
            rw [N_lp]
            refine ⟨_, ?_, _, sub_refl _, 2 * z, Qd ++ M, rfl, ?_, ?_, ?_, ?_, ?_, ?_, by simp (maxDischargeDepth := 9) only [↓gB, gV, gT, reduceIte, reduceCtorEq, Nat.reduceEqDiff, Nat.reduceAdd, Nat.reduceSub, Nat.reduceLeDiff, Nat.reduceLT, Int.reduceEq, Nat.reduceMul, hk, f7, f8, f6, f0, f1, f2, c1, hk2, hk, f6, f0, f1, f2, c2, q1, hk, f7, f8, f0, f1, f2, f6, c3, q2, c4, hk2, hzz', nat_succ, and_self]⟩
            · omega
            · omega
            · omega
            · assumption
            · assumption
            · (exact fun b o q1 q2 => hk2 b o (hk b o q1 q2) q2; done)
            · (exact fun q => hl2 (hl q); done)
        · have hst : BT key (2 * z) xs (Qd ++ Sd) := by rw [hx]; exact hB.app (.tail (by omega) (hS.one (by omega) (by omega)))
          focus
            simp (maxDischargeDepth := 9) only [↓gB, gV, gT, reduceIte, reduceCtorEq, Nat.reduceEqDiff, Nat.reduceAdd, Nat.reduceSub, Nat.reduceLeDiff, Nat.reduceLT, Int.reduceEq, Nat.reduceMul, hk, f7, f8, f6, f0, f1, f2, c1, hk2, hk, f6, f0, f1, f2, c2, q1, hk, f7, f8, f0, f1, f2, f6, c3, q2, c4, hzz']
            rw [N_lp]
            refine ⟨_, ?_, _, sub_refl _, 2 * z, Qd ++ Sd, rfl, ?_, ?_, ?_, ?_, ?_, ?_, by simp (maxDischargeDepth := 9) only [↓gB, gV, gT, reduceIte, reduceCtorEq, Nat.reduceEqDiff, Nat.reduceAdd, Nat.reduceSub, Nat.reduceLeDiff, Nat.reduceLT, Int.reduceEq, Nat.reduceMul, hk, f7, f8, f6, f0, f1, f2, c1, hk2, hk, f6, f0, f1, f2, c2, q1, hk, f7, f8, f0, f1, f2, f6, c3, q2, c4, hzz', nat_succ, and_self]⟩
            · omega
            · omega
            · omega
            · assumption
            · assumption
            · assumption
            · assumption
    · have hso := hBT.one (by omega) (by omega)
      rw [isort_is hcf hso.1 hso.2] at hrow
      simp (maxDischargeDepth := 9) only [↓gB, gV, gT, reduceIte, reduceCtorEq, Nat.reduceEqDiff, Nat.reduceAdd, Nat.reduceSub, Nat.reduceLeDiff, Nat.reduceLT, Int.reduceEq, Nat.reduceMul, hk, f7, f8, f6, f0, f1, f2, c1, hk2, hk, f6, f0, f1, f2, c2]
      exact Kup_same ⟨rfl, hrow, hk, hl⟩
theorem u62 {cf : SRest → SRest → Int} {key : SRest → Int} {Q : SRest → Prop} {g : Nat} {fa fb : List Value} (hg : GL.Enters Tryd.prog g) (hcf : ∀ x y, cf x y < 0 ↔ key x < key y) {G0 G : GH} {v : Value} {xs : List SRest} {n : Nat} (hrow : Row rRest 91 G0 G v xs) (hb : xs.length ≤ 1000000000) (hQ : ∀ x ∈ xs, Q x) (hf : ∀ (G' : GH), (∀ b o, G b = some o → notAt v b → G' b = some o) → ∀ x y, Q x → Q y → Pure Tryd.prog G' g (fa ++ [.agg #[V x.i, .int .u64 x.left], .agg #[V y.i, .int .u64 y.left]] ++ fb) (V (cf x y))) :
    GCalls Tryd.prog 62 [v, .func (.func g) fa.toArray fb.toArray].toArray G (fun u G' => u = .tuple #[] ∧ Row rRest 91 G0 G' v (isort cf xs) ∧ (∀ b o, G b = some o → notAt v b → G' b = some o) ∧ (G0.le G → G0.le G')) := by
  obtain ⟨a, c, rfl⟩ := hrow.val
  refine enter Tryd.func62 9 #[] rfl Tryd.ntmps62 rfl (by decide +kernel) rfl ?_
  simp (maxDischargeDepth := 9) only [↓gB, gV, gT, reduceIte, reduceCtorEq, Nat.reduceEqDiff, Nat.reduceAdd, Nat.reduceSub, Nat.reduceLeDiff, Nat.reduceLT, Int.reduceEq, Nat.reduceMul]
  refine Ycall_intro (md := none) (u76 hg hcf hrow rfl hb hQ hf) ?_
  rintro u G1 ⟨rfl, hrow, hk, hl⟩
  simp (maxDischargeDepth := 9) only [↓gB, gV, gT, reduceIte, reduceCtorEq, Nat.reduceEqDiff, Nat.reduceAdd, Nat.reduceSub, Nat.reduceLeDiff, Nat.reduceLT, Int.reduceEq, Nat.reduceMul, hk]
  exact Kup_same ⟨rfl, hrow, hk, hl⟩
end Go.Proofs.YtdepecjjahodjaaDoor
namespace Go.Proofs.YtdepecjjahodjaaDoor
open Go Go.GL
attribute [local irreducible] Ycall GCalls
set_option maxRecDepth 10000
set_option maxHeartbeats 0
theorem qs_nil (n s : Int) : qsF n s [] = [] := rfl
theorem enD : GL.Enters Tryd.prog 63 := of_eq_true en63
theorem incs_take {L : List SRest} {o : List Int} {j : Nat} {x : SRest} (h : L[j]? = some x) : incs (L.take (j + 1)) o = (incs (L.take j) o).modify x.i.toNat (· + 1) := by
  unfold incs; rw [take_at h, List.foldl_append]; rfl
theorem incs_len : ∀ (L : List SRest) (o : List Int), (incs L o).length = o.length
  | [], _ => rfl
  | x :: L, o => by
    have := incs_len L (o.modify x.i.toNat (· + 1))
    unfold incs at *
    rw [List.foldl_cons, this, List.length_modify]
theorem modify_set {o : List Int} {k : Nat} {y : Int} (h : o[k]? = some y) : o.modify k (· + 1) = o.set k (y + 1) := by
  apply List.ext_getElem?
  intro t
  rw [List.getElem?_modify, List.getElem?_set]
  by_cases e : k = t
  · subst e
    rw [h, if_pos rfl]
    have : k < o.length := by
      by_cases q : k < o.length
      · exact q
      · rw [List.getElem?_eq_none (by omega)] at h; cases h
    simp [this]
  · simp [e]
theorem mem_modify {o : List Int} {k : Nat} {q : Int} (h : q ∈ o.modify k (· + 1)) : q ∈ o ∨ ∃ y ∈ o, q = y + 1 := by
  obtain ⟨t, ht⟩ := List.mem_iff_getElem?.1 h
  rw [List.getElem?_modify] at ht
  cases ho : o[t]? with
  | none => rw [ho] at ht; simp at ht
  | some y =>
    rw [ho] at ht
    by_cases e : k = t
    · simp [e] at ht; exact .inr ⟨y, List.mem_of_getElem? ho, ht.symm⟩
    · simp [e] at ht; subst ht; exact .inl (List.mem_of_getElem? ho)
theorem incs_b {M : Int} : ∀ (L : List SRest) (o : List Int), (∀ q ∈ o, 0 ≤ q ∧ q ≤ M) → ∀ q ∈ incs L o, 0 ≤ q ∧ q ≤ M + L.length
  | [], o, h => by intro q hq; have := h q hq; simp; exact this
  | x :: L, o, h => by
    intro q hq
    have := incs_b (M := M + 1) L (o.modify x.i.toNat (· + 1)) (fun q hq => by
      rcases mem_modify hq with h1 | ⟨y, h1, rfl⟩
      · have := h q h1; omega
      · have := h y h1; omega) q hq
    simp only [List.length_cons, Int.natCast_add, Int.natCast_one]; omega
theorem rs_i {n s : Int} {l : List Int} : ∀ x ∈ rsF n s l, 0 ≤ x.i ∧ x.i < l.length := by
  intro x hx
  unfold rsF at hx
  obtain ⟨i, hi, rfl⟩ := List.mem_mapIdx.1 hx
  simp only; omega
theorem g48 {G0 : GH} {n : Int} {v : Value} {l : List Int} (hv : RSl Rp.int G0 v l) (hn : 0 ≤ n) (hn2 : n ≤ 1000000000) (hl : ∀ p ∈ l, 0 ≤ p ∧ p ≤ 1000000000) (hs : 0 < l.sum) (hlen : l.length < 20) : Gives Tryd.prog G0 48 [V n, v] (fun u G' => RSl Rp.int G' u (divideF n l)) := by
  intro G hG; replace hv := hv.le hG
  clear hG G0
  refine enter Tryd.func48 88 #[.tmp 4] rfl Tryd.ntmps48 rfl (by decide +kernel) rfl ?_
  obtain ⟨a, c, rfl⟩ := hv.val
  have hsb := sum_b hl
  have hmx := sum_le_take hl
  simp (maxDischargeDepth := 9) only [↓gB, gV, gT, reduceIte, reduceCtorEq, Nat.reduceEqDiff, Nat.reduceAdd, Nat.reduceSub, Nat.reduceLeDiff, Nat.reduceLT, Int.reduceEq, Nat.reduceMul]
  focus
    refine Xloop_intro _ _ _ _ _ (fun k f G' => ∃ (i : Nat), k = l.length - i ∧ (i ≤ l.length) ∧ (G = G') ∧ f 21 = V i ∧ f 5 = V (l.take i).sum ∧ f 0 = Go.GL.V n ∧ f 1 = Go.Value.slice a l.length c ∧ f 19 = Go.Value.slice a l.length c ∧ f 20 = Go.Value.int Go.IntKind.i64 ↑l.length) _ ⟨0, rfl, ?_, rfl, by simp (maxDischargeDepth := 9) only [↓gB, gV, gT, reduceIte, reduceCtorEq, Nat.reduceEqDiff, Nat.reduceAdd, Nat.reduceSub, Nat.reduceLeDiff, Nat.reduceLT, Int.reduceEq, Nat.reduceMul, List.sum_nil, and_self]⟩ ?_
    · omega
    rintro k f G' ⟨i, rfl, hi, rfl, f21, f5, f0, f1, f19, f20⟩
  have hb := sum_b (mem_take_b hl i)
  have hlt : (l.take i).length ≤ i := by rw [List.length_take]; omega
  simp (maxDischargeDepth := 9) only [↓gB, gV, gT, reduceIte, reduceCtorEq, Nat.reduceEqDiff, Nat.reduceAdd, Nat.reduceSub, Nat.reduceLeDiff, Nat.reduceLT, Int.reduceEq, Nat.reduceMul, f21, f5, f0, f1, f19, f20]
  refine Xc_split _ _ _ _ _ (fun c1 => ?_) (fun c1 => ?_)
  · obtain ⟨x, hx⟩ : ∃ x, l[i]? = some x := ⟨_, List.getElem?_eq_getElem (by omega)⟩
    have hxb := hl x (List.mem_of_getElem? hx)
    simp (maxDischargeDepth := 9) only [↓gB, gV, gT, reduceIte, reduceCtorEq, Nat.reduceEqDiff, Nat.reduceAdd, Nat.reduceSub, Nat.reduceLeDiff, Nat.reduceLT, Int.reduceEq, Nat.reduceMul, f21, f5, f0, f1, f19, f20, c1]
    obtain ⟨x1, a1, s1, m1, rfl, ⟨rfl, w1⟩, e1⟩ := hv.at1 (i) (by omega) rfl
    simp (maxDischargeDepth := 9) only [↓gB, gV, gT, reduceIte, reduceCtorEq, Nat.reduceEqDiff, Nat.reduceAdd, Nat.reduceSub, Nat.reduceLeDiff, Nat.reduceLT, Int.reduceEq, Nat.reduceMul, f21, f5, f0, f20, c1, f1, f19, e1]
    refine vguard_intro (by simp) ?_
    have q1 : Go.IntKind.i64.wrap (↑i + 1) = ↑i + 1 := wrap_id (by omega)
    simp (maxDischargeDepth := 9) only [↓gB, gV, gT, reduceIte, reduceCtorEq, Nat.reduceEqDiff, Nat.reduceAdd, Nat.reduceSub, Nat.reduceLeDiff, Nat.reduceLT, Int.reduceEq, Nat.reduceMul, f21, f5, f0, f20, c1, f1, f19, e1, q1]
    obtain rfl : x = x1 := by rw [hx] at m1; cases m1; rfl
    have hst := sum_take hx
    focus
      have q2 : Go.IntKind.i64.wrap ((List.take i l).sum + x) = (List.take i l).sum + x := wrap_id (by omega)
      simp (maxDischargeDepth := 9) only [↓gB, gV, gT, reduceIte, reduceCtorEq, Nat.reduceEqDiff, Nat.reduceAdd, Nat.reduceSub, Nat.reduceLeDiff, Nat.reduceLT, Int.reduceEq, Nat.reduceMul, f21, f5, f0, f20, c1, f1, f19, q1, e1, q2, hst]
      rw [N_lp]
      refine ⟨_, ?_, _, ?_, i + 1, rfl, ?_, rfl, by simp (maxDischargeDepth := 9) only [↓gB, gV, gT, reduceIte, reduceCtorEq, Nat.reduceEqDiff, Nat.reduceAdd, Nat.reduceSub, Nat.reduceLeDiff, Nat.reduceLT, Int.reduceEq, Nat.reduceMul, f21, f5, f0, f20, c1, f1, f19, q1, e1, q2, hst, nat_succ, and_self]⟩
      · omega
      · exact sub_refl _
      · omega
  · have e : l.take i = l := List.take_of_length_le (by omega)
    rw [e] at f5
    simp (maxDischargeDepth := 9) only [↓gB, gV, gT, reduceIte, reduceCtorEq, Nat.reduceEqDiff, Nat.reduceAdd, Nat.reduceSub, Nat.reduceLeDiff, Nat.reduceLT, Int.reduceEq, Nat.reduceMul, f21, f5, f0, f1, f19, f20, c1]
    have hsw : IntKind.u64.wrap l.sum = l.sum := u64_id (by omega) (by omega)
    have hnw : IntKind.u64.wrap n = n := u64_id hn (by omega)
    focus
      refine Xloop_intro _ _ _ _ _ (fun k f G' => ∃ (i : Nat) (o : Value) (r : Value), k = l.length - i ∧ (i ≤ l.length) ∧ (Row Rp.int 3 G G' o (qsF n l.sum (l.take i))) ∧ (Row rRest 91 G G' r (rsF n l.sum (l.take i))) ∧ (RSl Rp.int G' (.slice a l.length c) l) ∧ (G.le G') ∧ f 32 = V i ∧ f 8 = o ∧ f 9 = r ∧ f 10 = V (n - (qsF n l.sum (l.take i)).sum) ∧ f 0 = Go.GL.V n ∧ f 5 = Go.GL.V l.sum ∧ f 30 = Go.Value.slice a l.length c ∧ f 31 = Go.Value.int Go.IntKind.i64 ↑l.length) _ ⟨0, .slice none 0 0, .slice none 0 0, rfl, ?_, ?_, ?_, ?_, ?_, by simp (maxDischargeDepth := 9) only [↓gB, gV, gT, reduceIte, reduceCtorEq, Nat.reduceEqDiff, Nat.reduceAdd, Nat.reduceSub, Nat.reduceLeDiff, Nat.reduceLT, Int.reduceEq, Nat.reduceMul, f21, f5, f0, f1, f19, f20, c1, hsw, hnw, qs_nil, List.sum_nil, Int.sub_zero, and_self]⟩ ?_
      · omega
      · (exact Row.nil; done)
      · (exact Row.nil; done)
      · assumption
      · exact le_refl _
      rintro k f G' ⟨i, o, r, rfl, hi, ho, hr, hv, hle, f32, f8, f9, f10, f0, f5, f30, f31⟩
    obtain ⟨oa, oc, rfl⟩ := ho.val
    obtain ⟨ra, rc, rfl⟩ := hr.val
    have hol : (qsF n l.sum (l.take i)).length ≤ 20 := by unfold qsF; rw [List.length_map, List.length_take]; omega
    have hrl : (rsF n l.sum (l.take i)).length ≤ 20 := by unfold rsF; rw [List.length_mapIdx, List.length_take]; omega
    have hqb := sum_b (qs_b hn hn2 hs (l := l.take i) (fun p hp => ⟨(hl p (List.mem_of_mem_take hp)).1, hmx p (List.mem_of_mem_take hp)⟩))
    simp (maxDischargeDepth := 9) only [↓gB, gV, gT, reduceIte, reduceCtorEq, Nat.reduceEqDiff, Nat.reduceAdd, Nat.reduceSub, Nat.reduceLeDiff, Nat.reduceLT, Int.reduceEq, Nat.reduceMul, f21, f5, f0, f1, f19, f20, c1, hsw, hnw, f32, f10, f0, f5, f30, f31, f8, f9]
    refine Xc_split _ _ _ _ _ (fun c1 => ?_) (fun c1 => ?_)
    · obtain ⟨x, hx⟩ : ∃ x, l[i]? = some x := ⟨_, List.getElem?_eq_getElem (by omega)⟩
      have hxb := hl x (List.mem_of_getElem? hx)
      have hxs := hmx x (List.mem_of_getElem? hx)
      have hxw : IntKind.u64.wrap x = x := u64_id hxb.1 (by omega)
      have hm0 : 0 ≤ n * x := Int.mul_nonneg hn hxb.1
      have hm1 : n * x ≤ 1000000000 * 1000000000 := Int.mul_le_mul hn2 hxb.2 hxb.1 (by omega)
      have hm2 : n * x ≤ 1000000000000000000 := by omega
      have hq0 := qs_b hn hn2 hs (l := [x]) (by simp; omega) (n * x / l.sum) (by simp [qsF])
      have hqw : IntKind.i64.wrap (n * x / l.sum) = n * x / l.sum := wrap_id (by omega)
      have hqt := qs_take (n := n) (s := l.sum) hx
      have hleft : n - (qsF n l.sum (l.take (i + 1))).sum = n - (qsF n l.sum (l.take i)).sum - n * x / l.sum := by rw [hqt, List.sum_append]; simp; omega
      have hrt := rs_take (n := n) (s := l.sum) hx
      simp (maxDischargeDepth := 9) only [↓gB, gV, gT, reduceIte, reduceCtorEq, Nat.reduceEqDiff, Nat.reduceAdd, Nat.reduceSub, Nat.reduceLeDiff, Nat.reduceLT, Int.reduceEq, Nat.reduceMul, f21, f5, f0, f1, f19, f20, c1, hsw, hnw, f32, f10, f0, f5, f30, f31, f8, f9, c1, hxw, hqw]
      obtain ⟨x1, a1, s1, m1, rfl, ⟨rfl, w1⟩, e1⟩ := hv.at1 (i) (by omega) rfl
      simp (maxDischargeDepth := 9) only [↓gB, gV, gT, reduceIte, reduceCtorEq, Nat.reduceEqDiff, Nat.reduceAdd, Nat.reduceSub, Nat.reduceLeDiff, Nat.reduceLT, Int.reduceEq, Nat.reduceMul, f21, f5, f0, f20, c1, hsw, hnw, f32, f10, f0, f5, f31, f8, f9, c1, hxw, hqw, f1, f19, f30, e1]
      refine vguard_intro (by simp) ?_
      obtain rfl : x = x1 := by rw [hx] at m1; cases m1; rfl
      focus
        simp (maxDischargeDepth := 9) only [↓gB, gV, gT, reduceIte, reduceCtorEq, Nat.reduceEqDiff, Nat.reduceAdd, Nat.reduceSub, Nat.reduceLeDiff, Nat.reduceLT, Int.reduceEq, Nat.reduceMul, f21, f5, f0, f20, c1, hsw, hnw, f32, f10, f0, f5, f31, f8, f9, c1, hxw, hqw, f1, f19, f30, e1, hleft]
        refine Ycp (p60 (by assumption) (by assumption) (by omega) (by omega)) ?_
        simp (maxDischargeDepth := 9) only [↓gB, gV, gT, reduceIte, reduceCtorEq, Nat.reduceEqDiff, Nat.reduceAdd, Nat.reduceSub, Nat.reduceLeDiff, Nat.reduceLT, Int.reduceEq, Nat.reduceMul, f21, f5, f0, f20, c1, hsw, hnw, f32, f10, f0, f5, f31, f8, f9, c1, hxw, hqw, f1, f19, f30, e1, hleft]
        refine Ycp (p61 (by assumption) (by assumption) (by assumption)) ?_
        simp (maxDischargeDepth := 9) only [↓gB, gV, gT, reduceIte, reduceCtorEq, Nat.reduceEqDiff, Nat.reduceAdd, Nat.reduceSub, Nat.reduceLeDiff, Nat.reduceLT, Int.reduceEq, Nat.reduceMul, f21, f5, f0, f20, c1, hsw, hnw, f32, f10, f0, f5, f31, f8, f9, c1, hxw, hqw, f1, f19, f30, e1, hleft]
        refine Yn2 fun r1 h1 => ?_
        simp (maxDischargeDepth := 9) only [↓gB, gV, gT, reduceIte, reduceCtorEq, Nat.reduceEqDiff, Nat.reduceAdd, Nat.reduceSub, Nat.reduceLeDiff, Nat.reduceLT, Int.reduceEq, Nat.reduceMul, f21, f5, f0, f20, c1, hsw, hnw, f32, f10, f0, f5, f31, f8, f9, c1, hxw, hqw, f1, f19, f30, e1, h1, hleft]
        refine Row.app1 sl23 (Row.put _ h1 ho) (by exact put_self _ _ _) (y := _) ⟨rfl, (by first | exact (RSl.put _ h1 hv) | omega | decide | assumption | (unfold i64; omega) | (unfold i64 at *; omega) | (constructor <;> omega))⟩ (by omega) (GH.le.trans hle (le_put h1 _)) fun v1 G1 w1 k1 l1 => ?_
        replace hr := Row.keepTy (Row.put _ h1 hr) (Row.put _ h1 ho) k1 (by decide)
        replace hv := RSl.appd (RSl.put _ h1 hv) (Row.put _ h1 ho) k1
        simp (maxDischargeDepth := 9) only [↓gB, gV, gT, reduceIte, reduceCtorEq, Nat.reduceEqDiff, Nat.reduceAdd, Nat.reduceSub, Nat.reduceLeDiff, Nat.reduceLT, Int.reduceEq, Nat.reduceMul, f21, f5, f0, f20, c1, hsw, hnw, f32, f10, f0, f5, f31, f8, f9, c1, hxw, hqw, f1, f19, f30, e1, h1, k1, hleft]
        refine Yn2 fun r2 h2 => ?_
        simp (maxDischargeDepth := 9) only [↓gB, gV, gT, reduceIte, reduceCtorEq, Nat.reduceEqDiff, Nat.reduceAdd, Nat.reduceSub, Nat.reduceLeDiff, Nat.reduceLT, Int.reduceEq, Nat.reduceMul, f21, f5, f0, f20, c1, hsw, hnw, f32, f10, f0, f5, f31, f8, f9, c1, hxw, hqw, f1, f19, f30, e1, h1, k1, h2, hleft]
        refine Row.app1 sl85 (Row.put _ h2 hr) (by exact put_self _ _ _) (y := ⟨_, _⟩) rfl (by omega) (GH.le.trans l1 (le_put h2 _)) fun v2 G2 w2 k2 l2 => ?_
        replace hv := RSl.appd (RSl.put _ h2 hv) (Row.put _ h2 hr) k2
        replace w1 := Row.keepTy (Row.put _ h2 w1) (Row.put _ h2 hr) k2 (by decide)
        simp (maxDischargeDepth := 9) only [↓gB, gV, gT, reduceIte, reduceCtorEq, Nat.reduceEqDiff, Nat.reduceAdd, Nat.reduceSub, Nat.reduceLeDiff, Nat.reduceLT, Int.reduceEq, Nat.reduceMul, f21, f5, f0, f20, c1, hsw, hnw, f32, f10, f0, f5, f31, f8, f9, c1, hxw, hqw, f1, f19, f30, e1, h1, k1, h2, k2, hleft]
        have q1 : Go.IntKind.i64.wrap (n - (Go.Proofs.YtdepecjjahodjaaDoor.qsF n l.sum (List.take i l)).sum - n * x / l.sum) = n - (Go.Proofs.YtdepecjjahodjaaDoor.qsF n l.sum (List.take i l)).sum - n * x / l.sum := wrap_id (by omega)
        simp (maxDischargeDepth := 9) only [↓gB, gV, gT, reduceIte, reduceCtorEq, Nat.reduceEqDiff, Nat.reduceAdd, Nat.reduceSub, Nat.reduceLeDiff, Nat.reduceLT, Int.reduceEq, Nat.reduceMul, f21, f5, f0, f20, c1, hsw, hnw, f32, f10, f0, f5, f31, f8, f9, c1, hxw, hqw, f1, f19, f30, e1, h1, k1, h2, k2, q1, hleft]
        have q2 : Go.IntKind.i64.wrap (↑i + 1) = ↑i + 1 := wrap_id (by omega)
        simp (maxDischargeDepth := 9) only [↓gB, gV, gT, reduceIte, reduceCtorEq, Nat.reduceEqDiff, Nat.reduceAdd, Nat.reduceSub, Nat.reduceLeDiff, Nat.reduceLT, Int.reduceEq, Nat.reduceMul, f21, f5, f0, f20, c1, hsw, hnw, f32, f10, f0, f5, f31, f8, f9, c1, hxw, hqw, f1, f19, f30, e1, h1, k1, h2, k2, q1, q2, hleft]
        rw [N_lp]
        refine ⟨_, ?_, _, sub_refl _, i + 1, v1, v2, rfl, ?_, ?_, ?_, ?_, ?_, by simp (maxDischargeDepth := 9) only [↓gB, gV, gT, reduceIte, reduceCtorEq, Nat.reduceEqDiff, Nat.reduceAdd, Nat.reduceSub, Nat.reduceLeDiff, Nat.reduceLT, Int.reduceEq, Nat.reduceMul, f21, f5, f0, f20, c1, hsw, hnw, f32, f10, f0, f5, f31, f8, f9, c1, hxw, hqw, f1, f19, f30, e1, h1, k1, h2, k2, q1, q2, hleft, nat_succ, and_self]⟩
        · omega
        · omega
        · (rw [hqt]; assumption; done)
        · (rw [hrt]; assumption; done)
        · assumption
        · assumption
    · have e : l.take i = l := List.take_of_length_le (by omega)
      rw [e] at ho hr f8 f9 f10 hqb hol hrl
      have hrn : (rsF n l.sum l).length = l.length := by unfold rsF; rw [List.length_mapIdx]
      have hon : (qsF n l.sum l).length = l.length := by unfold qsF; rw [List.length_map]
      have hlr := left_range (n := n) hs
      have hlf : n - (qsF n l.sum l).sum = leftF n l.sum l := rfl
      rw [hlf] at f10
      simp (maxDischargeDepth := 9) only [↓gB, gV, gT, reduceIte, reduceCtorEq, Nat.reduceEqDiff, Nat.reduceAdd, Nat.reduceSub, Nat.reduceLeDiff, Nat.reduceLT, Int.reduceEq, Nat.reduceMul, f21, f5, f0, f1, f19, f20, c1, hsw, hnw, f32, f10, f0, f5, f30, f31, f8, f9, c1]
      refine Ycall_intro (md := none) (s62 (cf := cfR) hr (show (rsF n l.sum l).length < 20 by omega) enD (fun G' x y => p63)) ?_
      rintro u G2 ⟨rfl, hr2, hk, hl2⟩
      replace ho := Row.keepTy ho hr hk (by decide)
      replace hle := hl2 hle
      obtain ⟨G3, hs3, hrs, hk3, hl3⟩ := hr2.freeze
      refine Ysub hs3 ?_
      replace ho := Row.keepTy ho hr2 hk3 (by decide)
      replace hle := hl3 hle
      have hsl := (isort_perm cfR (rsF n l.sum l)).length_eq
      have hcap : (rsF n l.sum l).length ≤ rc := by
        obtain ⟨_, _, _, hv', _, h2, _⟩ := hrs
        cases hv'; exact h2
      obtain ⟨m, hm⟩ : ∃ m : Nat, leftF n l.sum l = (m : Int) := ⟨(leftF n l.sum l).toNat, by omega⟩
      have ht : RSl rRest G3 (.slice ra m rc) ((isort cfR (rsF n l.sum l)).take m) := RSl.take hrs (by omega)
      have hLt : ((isort cfR (rsF n l.sum l)).take m).length = m := by rw [List.length_take]; omega
      have hLi : ∀ x ∈ (isort cfR (rsF n l.sum l)).take m, 0 ≤ x.i ∧ x.i < l.length := fun x hx => rs_i x ((isort_perm cfR _).mem_iff.1 (List.mem_of_mem_take hx))
      have hdiv : divideF n l = incs ((isort cfR (rsF n l.sum l)).take m) (qsF n l.sum l) := by unfold divideF; rw [hm, Int.toNat_natCast]
      have hm20 : m ≤ 20 := by omega
      generalize (isort cfR (rsF n l.sum l)).take m = L at *
      clear hrs hr hr2 hk hk3 hl2 hl3
      rw [hm] at f10
      simp (maxDischargeDepth := 9) only [↓gB, gV, gT, reduceIte, reduceCtorEq, Nat.reduceEqDiff, Nat.reduceAdd, Nat.reduceSub, Nat.reduceLeDiff, Nat.reduceLT, Int.reduceEq, Nat.reduceMul, f21, f5, f0, f1, f19, f20, c1, hsw, hnw, f32, f0, f5, f30, f31, f8, f9, c1, f10]
      refine vguard_intro (by omega) ?_
      focus
        refine Xloop_intro _ _ _ _ _ (fun k f G' => ∃ (j : Nat), k = m - j ∧ (j ≤ m) ∧ (Row Rp.int 3 G G' (.slice oa (qsF n l.sum l).length oc) (incs (L.take j) (qsF n l.sum l))) ∧ (RSl rRest G' (.slice ra m rc) L) ∧ (G.le G') ∧ f 75 = V j ∧ f 8 = Go.Value.slice oa (Go.Proofs.YtdepecjjahodjaaDoor.qsF n l.sum l).length oc ∧ f 73 = Go.Value.slice ra m rc ∧ f 74 = Go.Value.int Go.IntKind.i64 ↑m) _ ⟨0, rfl, ?_, ?_, ?_, ?_, by simp (maxDischargeDepth := 9) only [↓gB, gV, gT, reduceIte, reduceCtorEq, Nat.reduceEqDiff, Nat.reduceAdd, Nat.reduceSub, Nat.reduceLeDiff, Nat.reduceLT, Int.reduceEq, Nat.reduceMul, f21, f5, f0, f1, f19, f20, c1, hsw, hnw, f32, f0, f5, f30, f31, f8, f9, c1, f10, and_self]⟩ ?_
        · omega
        · assumption
        · assumption
        · assumption
        rintro k f G' ⟨j, rfl, hj, ho, ht, hle, f75, f8, f73, f74⟩
      simp (maxDischargeDepth := 9) only [↓gB, gV, gT, reduceIte, reduceCtorEq, Nat.reduceEqDiff, Nat.reduceAdd, Nat.reduceSub, Nat.reduceLeDiff, Nat.reduceLT, Int.reduceEq, Nat.reduceMul, f21, f5, f0, f1, f19, f20, c1, hsw, hnw, f32, f0, f5, f30, f31, f8, f9, c1, f10, f75, f8, f73, f74]
      have hil : (incs (L.take j) (qsF n l.sum l)).length = l.length := by rw [incs_len, hon]
      have hib := incs_b (L.take j) (qsF n l.sum l) (qs_b hn hn2 hs (l := l) (fun p hp => ⟨(hl p hp).1, hmx p hp⟩))
      have hjl : (L.take j).length ≤ 20 := by rw [List.length_take]; omega
      refine Xc_split _ _ _ _ _ (fun c2 => ?_) (fun c2 => ?_)
      · obtain ⟨x, hx⟩ : ∃ x, L[j]? = some x := ⟨_, List.getElem?_eq_getElem (by omega)⟩
        have hxi := hLi x (List.mem_of_getElem? hx)
        obtain ⟨y, hy⟩ : ∃ y, (incs (L.take j) (qsF n l.sum l))[x.i.toNat]? = some y := ⟨_, List.getElem?_eq_getElem (by omega)⟩
        have hyb := hib y (List.mem_of_getElem? hy)
        have hin := (incs_take (o := qsF n l.sum l) hx).trans (modify_set hy)
        have hxt : ((x.i.toNat : Nat) : Int) = x.i := by omega
        simp (maxDischargeDepth := 9) only [↓gB, gV, gT, reduceIte, reduceCtorEq, Nat.reduceEqDiff, Nat.reduceAdd, Nat.reduceSub, Nat.reduceLeDiff, Nat.reduceLT, Int.reduceEq, Nat.reduceMul, f21, f5, f0, f1, f19, f20, c1, hsw, hnw, f32, f0, f5, f30, f31, f8, f9, c1, f10, f75, f8, f73, f74, c2]
        obtain ⟨x1, a1, s1, m1, rfl, rfl, e1⟩ := ht.at (j) (by omega) 2 rfl
        simp (maxDischargeDepth := 9) only [↓gB, gV, gT, reduceIte, reduceCtorEq, Nat.reduceEqDiff, Nat.reduceAdd, Nat.reduceSub, Nat.reduceLeDiff, Nat.reduceLT, Int.reduceEq, Nat.reduceMul, f21, f5, f0, f1, f19, f20, c1, hsw, hnw, f32, f0, f5, f30, f31, f8, c1, f10, f75, f8, f74, c2, f9, f73, e1]
        refine vguard_intro (by simp) ?_
        refine Yn2 fun r1 h1 => ?_
        simp (maxDischargeDepth := 9) only [↓gB, gV, gT, reduceIte, reduceCtorEq, Nat.reduceEqDiff, Nat.reduceAdd, Nat.reduceSub, Nat.reduceLeDiff, Nat.reduceLT, Int.reduceEq, Nat.reduceMul, f21, f5, f0, f1, f19, f20, c1, hsw, hnw, f32, f0, f5, f30, f31, f8, c1, f10, f75, f8, f74, c2, f9, f73, e1, h1]
        obtain rfl : x = x1 := by rw [hx] at m1; cases m1; rfl
        obtain ⟨x2, a2, s2, m2, rfl, ⟨rfl, w2⟩, e2⟩ := ho.at1 ((Int.toNat (x.i))) (by omega) rfl
        simp (maxDischargeDepth := 9) only [↓gB, gV, gT, reduceIte, reduceCtorEq, Nat.reduceEqDiff, Nat.reduceAdd, Nat.reduceSub, Nat.reduceLeDiff, Nat.reduceLT, Int.reduceEq, Nat.reduceMul, f21, f5, f0, f1, f19, f20, c1, hsw, hnw, f32, f0, f5, f30, f31, c1, f10, f75, f74, c2, f9, f73, h1, e1, f8, f8, e2]
        refine vguard_intro (by omega) ?_
        refine vguard_intro (by omega) ?_
        obtain rfl : y = x2 := by rw [hy] at m2; cases m2; rfl
        have hyw : IntKind.i64.wrap (y + 1) = y + 1 := wrap_id (by omega)
        focus
          simp (maxDischargeDepth := 9) only [↓gB, gV, gT, reduceIte, reduceCtorEq, Nat.reduceEqDiff, Nat.reduceAdd, Nat.reduceSub, Nat.reduceLeDiff, Nat.reduceLT, Int.reduceEq, Nat.reduceMul, f21, f5, f0, f1, f19, f20, c1, hsw, hnw, f32, f0, f5, f30, f31, c1, f10, f75, f74, c2, f9, f73, h1, e1, f8, f8, e2, hyw]
          refine Yrow1 (Row.put _ h1 ho) rfl (by first | omega | (simp only [List.length_set]; omega)) (fun _ _ => ⟨rfl, (by first | assumption | (unfold i64 at *; omega))⟩) fun G1 w1 i1 k1 kn1 l1 => ?_
          replace hle := l1 (GH.le.trans hle (le_put h1 _))
          replace ht := RSl.ile (RSl.put _ h1 ht) i1
          simp (maxDischargeDepth := 9) only [↓gB, gV, gT, reduceIte, reduceCtorEq, Nat.reduceEqDiff, Nat.reduceAdd, Nat.reduceSub, Nat.reduceLeDiff, Nat.reduceLT, Int.reduceEq, Nat.reduceMul, f21, f5, f0, f1, f19, f20, c1, hsw, hnw, f32, f0, f5, f30, f31, c1, f10, f75, f74, c2, f9, f73, h1, e1, f8, f8, e2, hyw, k1, kn1]
          have q1 : Go.IntKind.i64.wrap (↑j + 1) = ↑j + 1 := wrap_id (by omega)
          simp (maxDischargeDepth := 9) only [↓gB, gV, gT, reduceIte, reduceCtorEq, Nat.reduceEqDiff, Nat.reduceAdd, Nat.reduceSub, Nat.reduceLeDiff, Nat.reduceLT, Int.reduceEq, Nat.reduceMul, f21, f5, f0, f1, f19, f20, c1, hsw, hnw, f32, f0, f5, f30, f31, c1, f10, f75, f74, c2, f9, f73, h1, e1, f8, f8, e2, hyw, k1, kn1, q1]
          rw [N_lp]
          refine ⟨_, ?_, _, sub_refl _, j + 1, rfl, ?_, ?_, ?_, ?_, by simp (maxDischargeDepth := 9) only [↓gB, gV, gT, reduceIte, reduceCtorEq, Nat.reduceEqDiff, Nat.reduceAdd, Nat.reduceSub, Nat.reduceLeDiff, Nat.reduceLT, Int.reduceEq, Nat.reduceMul, f21, f5, f0, f1, f19, f20, c1, hsw, hnw, f32, f0, f5, f30, f31, c1, f10, f75, f74, c2, f9, f73, h1, e1, f8, f8, e2, hyw, k1, kn1, q1, nat_succ, and_self]⟩
          · omega
          · omega
          · (rw [hin]; assumption; done)
          · assumption
          · assumption
      · simp (maxDischargeDepth := 9) only [↓gB, gV, gT, reduceIte, reduceCtorEq, Nat.reduceEqDiff, Nat.reduceAdd, Nat.reduceSub, Nat.reduceLeDiff, Nat.reduceLT, Int.reduceEq, Nat.reduceMul, f21, f5, f0, f1, f19, f20, c1, hsw, hnw, f32, f0, f5, f30, f31, f8, f9, c1, f10, f75, f8, f73, f74, c2]
        have e2 : L.take j = L := List.take_of_length_le (by omega)
        rw [e2, ← hdiv] at ho
        obtain ⟨G4, hs4, hl4, hr4⟩ := ho.fin hle
        have hdl : (divideF n l).length = (qsF n l.sum l).length := by rw [hdiv, incs_len]
        exact Kup_gives hs4 hl4 hr4
end Go.Proofs.YtdepecjjahodjaaDoor
namespace Go.Proofs.YtdepecjjahodjaaDoor
open Go Go.GL
attribute [local irreducible] Ycall GCalls
set_option maxRecDepth 10000
set_option maxHeartbeats 0
theorem p24 {G0 : GH} {v w : Value} {l m : List Int} (hv : RSl Rp.int G0 v l) (hw : RSl Rp.int G0 w m) (hn : (l.length : Int) ≤ 9223372036854775807) : Pure Tryd.prog G0 24 [v, w] (.bool (decide (l = m))) := by
  intro G hG; replace hv := hv.le hG; replace hw := hw.le hG
  clear hG G0
  refine enter Tryd.func24 26 #[.tmp 4] rfl Tryd.ntmps24 rfl (by decide +kernel) rfl ?_
  obtain ⟨a, c, rfl⟩ := hv.val
  obtain ⟨b, d, rfl⟩ := hw.val
  simp (maxDischargeDepth := 9) only [↓gB, gV, gT, reduceIte, reduceCtorEq, Nat.reduceEqDiff, Nat.reduceAdd, Nat.reduceSub, Nat.reduceLeDiff, Nat.reduceLT, Int.reduceEq, Nat.reduceMul]
  refine Xc_split _ _ _ _ _ (fun hlen => ?_) (fun hlen => ?_)
  · simp (maxDischargeDepth := 9) only [↓gB, gV, gT, reduceIte, reduceCtorEq, Nat.reduceEqDiff, Nat.reduceAdd, Nat.reduceSub, Nat.reduceLeDiff, Nat.reduceLT, Int.reduceEq, Nat.reduceMul]
    refine Kup_val (le_refl _) ?_
    have hne : l ≠ m := by (rintro rfl; exact hlen rfl)
    simp [hne]
  · simp (maxDischargeDepth := 9) only [↓gB, gV, gT, reduceIte, reduceCtorEq, Nat.reduceEqDiff, Nat.reduceAdd, Nat.reduceSub, Nat.reduceLeDiff, Nat.reduceLT, Int.reduceEq, Nat.reduceMul]
    focus
      refine Xloop_intro _ _ _ _ _ (fun k f G' => ∃ (i : Nat), k = l.length - i ∧ (i ≤ l.length) ∧ (l.take i = m.take i) ∧ (G = G') ∧ f 13 = V i ∧ f 0 = Go.Value.slice a l.length c ∧ f 1 = Go.Value.slice b m.length d ∧ f 12 = Go.Value.int Go.IntKind.i64 ↑l.length) _ ⟨0, rfl, ?_, ?_, rfl, by simp (maxDischargeDepth := 9) only [↓gB, gV, gT, reduceIte, reduceCtorEq, Nat.reduceEqDiff, Nat.reduceAdd, Nat.reduceSub, Nat.reduceLeDiff, Nat.reduceLT, Int.reduceEq, Nat.reduceMul, and_self]⟩ ?_
      · omega
      · rfl
      rintro k f G' ⟨i, rfl, hi, h, rfl, f13, f0, f1, f12⟩
    focus
      simp (maxDischargeDepth := 9) only [↓gB, gV, gT, reduceIte, reduceCtorEq, Nat.reduceEqDiff, Nat.reduceAdd, Nat.reduceSub, Nat.reduceLeDiff, Nat.reduceLT, Int.reduceEq, Nat.reduceMul, f13, f0, f1, f12]
      refine Xc_split _ _ _ _ _ (fun c1 => ?_) (fun c1 => ?_)
      rotate_left 1
      focus
        simp (maxDischargeDepth := 9) only [↓gB, gV, gT, reduceIte, reduceCtorEq, Nat.reduceEqDiff, Nat.reduceAdd, Nat.reduceSub, Nat.reduceLeDiff, Nat.reduceLT, Int.reduceEq, Nat.reduceMul, f13, f0, f1, f12, c1]
        refine Kup_val (le_refl _) ?_
        focus ((have e : l = m := by (rw [← List.take_of_length_le (l := l) (i := i) (by omega), h, List.take_of_length_le (by omega)])); simp [e]; done)
      rotate_right 1
      simp (maxDischargeDepth := 9) only [↓gB, gV, gT, reduceIte, reduceCtorEq, Nat.reduceEqDiff, Nat.reduceAdd, Nat.reduceSub, Nat.reduceLeDiff, Nat.reduceLT, Int.reduceEq, Nat.reduceMul, f13, f0, f1, f12, c1]
      refine Xdraw_intro [0, 1, 2, 3, 4, 5, 6, 7, 8] mixed (by kernel_rfl) (by decide +kernel) ?_
      simp (maxDischargeDepth := 9) only [↓gB, gV, gT, reduceIte, reduceCtorEq, Nat.reduceEqDiff, Nat.reduceAdd, Nat.reduceSub, Nat.reduceLeDiff, Nat.reduceLT, Int.reduceEq, Nat.reduceMul, f13, f0, f1, f12, c1]
      obtain ⟨x1, a1, s1, m1, rfl, ⟨rfl, w1⟩, e1⟩ := hv.at1 (i) (by omega) rfl
      simp (maxDischargeDepth := 9) only [↓gB, gV, gT, reduceIte, reduceCtorEq, Nat.reduceEqDiff, Nat.reduceAdd, Nat.reduceSub, Nat.reduceLeDiff, Nat.reduceLT, Int.reduceEq, Nat.reduceMul, f13, f1, f12, c1, f0, e1]
      refine vguard_intro (by simp) ?_
      obtain ⟨x2, a2, s2, m2, rfl, ⟨rfl, w2⟩, e2⟩ := hw.at1 (i) (by omega) rfl
      simp (maxDischargeDepth := 9) only [↓gB, gV, gT, reduceIte, reduceCtorEq, Nat.reduceEqDiff, Nat.reduceAdd, Nat.reduceSub, Nat.reduceLeDiff, Nat.reduceLT, Int.reduceEq, Nat.reduceMul, f13, f12, c1, f0, e1, f1, e2]
      refine vguard_intro (by omega) ?_
      refine Xc_split _ _ _ _ _ (fun c2 => ?_) (fun c2 => ?_)
      rotate_left 1
      focus
        simp (maxDischargeDepth := 9) only [↓gB, gV, gT, reduceIte, reduceCtorEq, Nat.reduceEqDiff, Nat.reduceAdd, Nat.reduceSub, Nat.reduceLeDiff, Nat.reduceLT, Int.reduceEq, Nat.reduceMul, f13, f12, c1, f0, e1, f1, e2, c2]
        have q1 : Go.IntKind.i64.wrap (↑i + 1) = ↑i + 1 := wrap_id (by omega)
        simp (maxDischargeDepth := 9) only [↓gB, gV, gT, reduceIte, reduceCtorEq, Nat.reduceEqDiff, Nat.reduceAdd, Nat.reduceSub, Nat.reduceLeDiff, Nat.reduceLT, Int.reduceEq, Nat.reduceMul, f13, f12, c1, f0, e1, f1, e2, c2, q1]
        rw [N_lp]
        refine ⟨_, ?_, _, ?_, i + 1, rfl, ?_, ?_, rfl, by simp (maxDischargeDepth := 9) only [↓gB, gV, gT, reduceIte, reduceCtorEq, Nat.reduceEqDiff, Nat.reduceAdd, Nat.reduceSub, Nat.reduceLeDiff, Nat.reduceLT, Int.reduceEq, Nat.reduceMul, f13, f12, c1, f0, e1, f1, e2, c2, q1, nat_succ, and_self]⟩
        · omega
        · exact sub_refl _
        · omega
        · (rw [take_at m1, take_at m2, h, show x1 = x2 by first | assumption | omega]; done)
      rotate_right 1
      simp (maxDischargeDepth := 9) only [↓gB, gV, gT, reduceIte, reduceCtorEq, Nat.reduceEqDiff, Nat.reduceAdd, Nat.reduceSub, Nat.reduceLeDiff, Nat.reduceLT, Int.reduceEq, Nat.reduceMul, f13, f12, c1, f0, e1, f1, e2, c2]
      refine Kup_val (le_refl _) ?_
      focus ((have e : l ≠ m := by (rintro rfl; rw [m1] at m2; cases m2; simp_all)); simp [e]; done)
def partsOk (l : List Int) : Bool := l.all fun p => within p 0 1000000000
def divideE (n : Int) (l : List Int) : Int := if within n 0 1000000000 = false then 1 else if 1000 < l.length then 2 else if partsOk l = false then 1 else if l.sum = 0 then 8 else 0
theorem parts_b {l : List Int} (h : partsOk l = true) : ∀ p ∈ l, 0 ≤ p ∧ p ≤ 1000000000 := fun p hp => within_iff.1 (List.all_eq_true.1 h p hp)
theorem g22 {G0 : GH} {n : Int} {v : Value} {l : List Int} (hv : RSl Rp.int G0 v l) (hlen : l.length < 20) : Gives Tryd.prog G0 22 [V n, v] (fun u G' => ∃ x, RSl Rp.int G' x (if divideE n l = 0 then divideF n l else []) ∧ u = .tuple #[x, V (divideE n l)]) := by
  intro G hG; replace hv := hv.le hG
  clear hG G0
  refine enter Tryd.func22 31 #[.tmp 4, .tmp 5] rfl Tryd.ntmps22 rfl (by decide +kernel) rfl ?_
  obtain ⟨a, c, rfl⟩ := hv.val
  cases hn : within n 0 1000000000
  · have e : divideE n l = 1 := by simp [divideE, hn]
    simp (maxDischargeDepth := 9) only [↓gB, gV, gT, reduceIte, reduceCtorEq, Nat.reduceEqDiff, Nat.reduceAdd, Nat.reduceSub, Nat.reduceLeDiff, Nat.reduceLT, Int.reduceEq, Nat.reduceMul, hn, e]
    refine Ycp (p45) ?_
    simp (maxDischargeDepth := 9) only [↓gB, gV, gT, reduceIte, reduceCtorEq, Nat.reduceEqDiff, Nat.reduceAdd, Nat.reduceSub, Nat.reduceLeDiff, Nat.reduceLT, Int.reduceEq, Nat.reduceMul, hn, e]
    exact Kup_gives (sub_refl _) (le_refl _) ⟨_, RSl.nil _ _, rfl⟩
  · have hnb := within_iff.1 hn
    simp (maxDischargeDepth := 9) only [↓gB, gV, gT, reduceIte, reduceCtorEq, Nat.reduceEqDiff, Nat.reduceAdd, Nat.reduceSub, Nat.reduceLeDiff, Nat.reduceLT, Int.reduceEq, Nat.reduceMul, hn]
    refine Ycp (p45) ?_
    simp (maxDischargeDepth := 9) only [↓gB, gV, gT, reduceIte, reduceCtorEq, Nat.reduceEqDiff, Nat.reduceAdd, Nat.reduceSub, Nat.reduceLeDiff, Nat.reduceLT, Int.reduceEq, Nat.reduceMul, hn]
    refine Xc_neg _ _ _ _ _ (by omega) ?_
    simp (maxDischargeDepth := 9) only [↓gB, gV, gT, reduceIte, reduceCtorEq, Nat.reduceEqDiff, Nat.reduceAdd, Nat.reduceSub, Nat.reduceLeDiff, Nat.reduceLT, Int.reduceEq, Nat.reduceMul, hn]
    focus
      refine Xloop_intro _ _ _ _ _ (fun k f G' => ∃ (i : Nat), k = l.length - i ∧ (i ≤ l.length) ∧ (partsOk (l.take i) = true) ∧ (G = G') ∧ f 16 = V i ∧ f 6 = V (l.take i).sum ∧ f 0 = Go.GL.V n ∧ f 1 = Go.Value.slice a l.length c ∧ f 14 = Go.Value.slice a l.length c ∧ f 15 = Go.Value.int Go.IntKind.i64 ↑l.length) _ ⟨0, rfl, ?_, ?_, rfl, by simp (maxDischargeDepth := 9) only [↓gB, gV, gT, reduceIte, reduceCtorEq, Nat.reduceEqDiff, Nat.reduceAdd, Nat.reduceSub, Nat.reduceLeDiff, Nat.reduceLT, Int.reduceEq, Nat.reduceMul, hn, List.sum_nil, and_self]⟩ ?_
      · omega
      · rfl
      rintro k f G' ⟨i, rfl, hi, hp, rfl, f16, f6, f0, f1, f14, f15⟩
    have hb := sum_b (parts_b hp)
    have hlt : (l.take i).length ≤ i := by rw [List.length_take]; omega
    simp (maxDischargeDepth := 9) only [↓gB, gV, gT, reduceIte, reduceCtorEq, Nat.reduceEqDiff, Nat.reduceAdd, Nat.reduceSub, Nat.reduceLeDiff, Nat.reduceLT, Int.reduceEq, Nat.reduceMul, hn, hp, f16, f6, f0, f1, f14, f15]
    refine Xc_split _ _ _ _ _ (fun c1 => ?_) (fun c1 => ?_)
    · obtain ⟨x, hx⟩ : ∃ x, l[i]? = some x := ⟨_, List.getElem?_eq_getElem (by omega)⟩
      have hst := sum_take hx
      simp (maxDischargeDepth := 9) only [↓gB, gV, gT, reduceIte, reduceCtorEq, Nat.reduceEqDiff, Nat.reduceAdd, Nat.reduceSub, Nat.reduceLeDiff, Nat.reduceLT, Int.reduceEq, Nat.reduceMul, hn, hp, f16, f6, f0, f1, f14, f15, c1]
      obtain ⟨x1, a1, s1, m1, rfl, ⟨rfl, w1⟩, e1⟩ := hv.at1 (i) (by omega) rfl
      simp (maxDischargeDepth := 9) only [↓gB, gV, gT, reduceIte, reduceCtorEq, Nat.reduceEqDiff, Nat.reduceAdd, Nat.reduceSub, Nat.reduceLeDiff, Nat.reduceLT, Int.reduceEq, Nat.reduceMul, hn, hp, f16, f6, f0, f15, c1, f1, f14, e1]
      refine vguard_intro (by simp) ?_
      refine Ycp (p45) ?_
      simp (maxDischargeDepth := 9) only [↓gB, gV, gT, reduceIte, reduceCtorEq, Nat.reduceEqDiff, Nat.reduceAdd, Nat.reduceSub, Nat.reduceLeDiff, Nat.reduceLT, Int.reduceEq, Nat.reduceMul, hn, hp, f16, f6, f0, f15, c1, f1, f14, e1]
      obtain rfl : x = x1 := by rw [hx] at m1; cases m1; rfl
      cases hxw : within x 0 1000000000
      · have e : divideE n l = 1 := by
          have : partsOk l = false := by
            unfold partsOk; rw [List.all_eq_false]; exact ⟨x, List.mem_of_getElem? hx, by simp [hxw]⟩
          have h0 : ¬ 1000 < l.length := by omega
          simp [divideE, hn, this, h0]
        simp (maxDischargeDepth := 9) only [↓gB, gV, gT, reduceIte, reduceCtorEq, Nat.reduceEqDiff, Nat.reduceAdd, Nat.reduceSub, Nat.reduceLeDiff, Nat.reduceLT, Int.reduceEq, Nat.reduceMul, hn, hp, f16, f6, f0, f15, c1, f1, f14, e1, hxw, e]
        exact Kup_gives (sub_refl _) (le_refl _) ⟨_, RSl.nil _ _, rfl⟩
      · have hxb := within_iff.1 hxw
        have hp' : partsOk (l.take (i + 1)) = true := by unfold partsOk at *; rw [take_at hx, List.all_append, hp]; simp [hxw]
        focus
          simp (maxDischargeDepth := 9) only [↓gB, gV, gT, reduceIte, reduceCtorEq, Nat.reduceEqDiff, Nat.reduceAdd, Nat.reduceSub, Nat.reduceLeDiff, Nat.reduceLT, Int.reduceEq, Nat.reduceMul, hn, hp, f16, f6, f0, f15, c1, f1, f14, e1, hxw, hp', hst]
          have q1 : Go.IntKind.i64.wrap ((List.take i l).sum + x) = (List.take i l).sum + x := wrap_id (by omega)
          simp (maxDischargeDepth := 9) only [↓gB, gV, gT, reduceIte, reduceCtorEq, Nat.reduceEqDiff, Nat.reduceAdd, Nat.reduceSub, Nat.reduceLeDiff, Nat.reduceLT, Int.reduceEq, Nat.reduceMul, hn, hp, f16, f6, f0, f15, c1, f1, f14, e1, hxw, hp', q1, hst]
          have q2 : Go.IntKind.i64.wrap (↑i + 1) = ↑i + 1 := wrap_id (by omega)
          simp (maxDischargeDepth := 9) only [↓gB, gV, gT, reduceIte, reduceCtorEq, Nat.reduceEqDiff, Nat.reduceAdd, Nat.reduceSub, Nat.reduceLeDiff, Nat.reduceLT, Int.reduceEq, Nat.reduceMul, hn, hp, f16, f6, f0, f15, c1, f1, f14, e1, hxw, hp', q1, q2, hst]
          rw [N_lp]
          refine ⟨_, ?_, _, ?_, i + 1, rfl, ?_, ?_, rfl, by simp (maxDischargeDepth := 9) only [↓gB, gV, gT, reduceIte, reduceCtorEq, Nat.reduceEqDiff, Nat.reduceAdd, Nat.reduceSub, Nat.reduceLeDiff, Nat.reduceLT, Int.reduceEq, Nat.reduceMul, hn, hp, f16, f6, f0, f15, c1, f1, f14, e1, hxw, hp', q1, q2, hst, nat_succ, and_self]⟩
          · omega
          · exact sub_refl _
          · omega
          · assumption
    · have e2 : l.take i = l := List.take_of_length_le (by omega)
      rw [e2] at hp f6 hb
      have h0 : ¬ 1000 < l.length := by omega
      by_cases c2 : l.sum = 0
      · have e : divideE n l = 8 := by simp [divideE, hn, hp, c2, h0]
        simp (maxDischargeDepth := 9) only [↓gB, gV, gT, reduceIte, reduceCtorEq, Nat.reduceEqDiff, Nat.reduceAdd, Nat.reduceSub, Nat.reduceLeDiff, Nat.reduceLT, Int.reduceEq, Nat.reduceMul, hn, hp, f16, f6, f0, f1, f14, f15, c1, c2, e]
        exact Kup_gives (sub_refl _) (le_refl _) ⟨_, RSl.nil _ _, rfl⟩
      · have e : divideE n l = 0 := by simp [divideE, hn, hp, c2, h0]
        have hs0 : 0 < l.sum := by omega
        have hpb := parts_b hp
        simp (maxDischargeDepth := 9) only [↓gB, gV, gT, reduceIte, reduceCtorEq, Nat.reduceEqDiff, Nat.reduceAdd, Nat.reduceSub, Nat.reduceLeDiff, Nat.reduceLT, Int.reduceEq, Nat.reduceMul, hn, hp, f16, f6, f0, f1, f14, f15, c1, c2, e]
        refine Ycg (g48 (by assumption) (by omega) (by omega) (by assumption) (by assumption) (by assumption)) ?_ ?_
        · exact upRSl _ _
        intro u1 G1 l1 w1
        replace hv := RSl.le hv l1
        obtain ⟨aw1, cw1, rfl⟩ := RSl.val w1
        simp (maxDischargeDepth := 9) only [↓gB, gV, gT, reduceIte, reduceCtorEq, Nat.reduceEqDiff, Nat.reduceAdd, Nat.reduceSub, Nat.reduceLeDiff, Nat.reduceLT, Int.reduceEq, Nat.reduceMul, hn, hp, f16, f6, f0, f1, f14, f15, c1, c2, e]
        exact Kup_gives (sub_refl _) (by assumption) ⟨_, by assumption, rfl⟩
end Go.Proofs.YtdepecjjahodjaaDoor
namespace Go.Proofs.YtdepecjjahodjaaDoor
open Go Go.GL
attribute [local irreducible] Ycall GCalls
set_option maxRecDepth 10000
set_option maxHeartbeats 0
theorem cmp3_lt' (a b : Int) : cmp3 a b < 0 ↔ a < b := by
  unfold cmp3
  split
  · simp; assumption
  · split <;> omega
theorem cfR_lt (x y : SRest) : cfR x y < 0 ↔ - x.left < - y.left := by
  unfold cfR; rw [cmp3_lt']; omega
theorem g48b {G0 : GH} {n : Int} {v : Value} {l : List Int} (hv : RSl Rp.int G0 v l) (hn : 0 ≤ n) (hn2 : n ≤ 1000000000) (hl : ∀ p ∈ l, 0 ≤ p ∧ p ≤ 1000000000) (hs : 0 < l.sum) (hlen : l.length ≤ 1000) : Gives Tryd.prog G0 48 [V n, v] (fun u G' => RSl Rp.int G' u (divideF n l)) := by
  intro G hG; replace hv := hv.le hG
  clear hG G0
  refine enter Tryd.func48 88 #[.tmp 4] rfl Tryd.ntmps48 rfl (by decide +kernel) rfl ?_
  obtain ⟨a, c, rfl⟩ := hv.val
  have hsb := sum_b hl
  have hmx := sum_le_take hl
  simp (maxDischargeDepth := 9) only [↓gB, gV, gT, reduceIte, reduceCtorEq, Nat.reduceEqDiff, Nat.reduceAdd, Nat.reduceSub, Nat.reduceLeDiff, Nat.reduceLT, Int.reduceEq, Nat.reduceMul]
  focus
    refine Xloop_intro _ _ _ _ _ (fun k f G' => ∃ (i : Nat), k = l.length - i ∧ (i ≤ l.length) ∧ (G = G') ∧ f 21 = V i ∧ f 5 = V (l.take i).sum ∧ f 0 = Go.GL.V n ∧ f 1 = Go.Value.slice a l.length c ∧ f 19 = Go.Value.slice a l.length c ∧ f 20 = Go.Value.int Go.IntKind.i64 ↑l.length) _ ⟨0, rfl, ?_, rfl, by simp (maxDischargeDepth := 9) only [↓gB, gV, gT, reduceIte, reduceCtorEq, Nat.reduceEqDiff, Nat.reduceAdd, Nat.reduceSub, Nat.reduceLeDiff, Nat.reduceLT, Int.reduceEq, Nat.reduceMul, List.sum_nil, and_self]⟩ ?_
    · omega
    rintro k f G' ⟨i, rfl, hi, rfl, f21, f5, f0, f1, f19, f20⟩
  have hb := sum_b (mem_take_b hl i)
  have hlt : (l.take i).length ≤ i := by rw [List.length_take]; omega
  simp (maxDischargeDepth := 9) only [↓gB, gV, gT, reduceIte, reduceCtorEq, Nat.reduceEqDiff, Nat.reduceAdd, Nat.reduceSub, Nat.reduceLeDiff, Nat.reduceLT, Int.reduceEq, Nat.reduceMul, f21, f5, f0, f1, f19, f20]
  refine Xc_split _ _ _ _ _ (fun c1 => ?_) (fun c1 => ?_)
  · obtain ⟨x, hx⟩ : ∃ x, l[i]? = some x := ⟨_, List.getElem?_eq_getElem (by omega)⟩
    have hxb := hl x (List.mem_of_getElem? hx)
    simp (maxDischargeDepth := 9) only [↓gB, gV, gT, reduceIte, reduceCtorEq, Nat.reduceEqDiff, Nat.reduceAdd, Nat.reduceSub, Nat.reduceLeDiff, Nat.reduceLT, Int.reduceEq, Nat.reduceMul, f21, f5, f0, f1, f19, f20, c1]
    obtain ⟨x1, a1, s1, m1, rfl, ⟨rfl, w1⟩, e1⟩ := hv.at1 (i) (by omega) rfl
    simp (maxDischargeDepth := 9) only [↓gB, gV, gT, reduceIte, reduceCtorEq, Nat.reduceEqDiff, Nat.reduceAdd, Nat.reduceSub, Nat.reduceLeDiff, Nat.reduceLT, Int.reduceEq, Nat.reduceMul, f21, f5, f0, f20, c1, f1, f19, e1]
    refine vguard_intro (by simp) ?_
    have q1 : Go.IntKind.i64.wrap (↑i + 1) = ↑i + 1 := wrap_id (by omega)
    simp (maxDischargeDepth := 9) only [↓gB, gV, gT, reduceIte, reduceCtorEq, Nat.reduceEqDiff, Nat.reduceAdd, Nat.reduceSub, Nat.reduceLeDiff, Nat.reduceLT, Int.reduceEq, Nat.reduceMul, f21, f5, f0, f20, c1, f1, f19, e1, q1]
    obtain rfl : x = x1 := by rw [hx] at m1; cases m1; rfl
    have hst := sum_take hx
    focus
      have q2 : Go.IntKind.i64.wrap ((List.take i l).sum + x) = (List.take i l).sum + x := wrap_id (by omega)
      simp (maxDischargeDepth := 9) only [↓gB, gV, gT, reduceIte, reduceCtorEq, Nat.reduceEqDiff, Nat.reduceAdd, Nat.reduceSub, Nat.reduceLeDiff, Nat.reduceLT, Int.reduceEq, Nat.reduceMul, f21, f5, f0, f20, c1, f1, f19, q1, e1, q2, hst]
      rw [N_lp]
      refine ⟨_, ?_, _, ?_, i + 1, rfl, ?_, rfl, by simp (maxDischargeDepth := 9) only [↓gB, gV, gT, reduceIte, reduceCtorEq, Nat.reduceEqDiff, Nat.reduceAdd, Nat.reduceSub, Nat.reduceLeDiff, Nat.reduceLT, Int.reduceEq, Nat.reduceMul, f21, f5, f0, f20, c1, f1, f19, q1, e1, q2, hst, nat_succ, and_self]⟩
      · omega
      · exact sub_refl _
      · omega
  · have e : l.take i = l := List.take_of_length_le (by omega)
    rw [e] at f5
    simp (maxDischargeDepth := 9) only [↓gB, gV, gT, reduceIte, reduceCtorEq, Nat.reduceEqDiff, Nat.reduceAdd, Nat.reduceSub, Nat.reduceLeDiff, Nat.reduceLT, Int.reduceEq, Nat.reduceMul, f21, f5, f0, f1, f19, f20, c1]
    have hsw : IntKind.u64.wrap l.sum = l.sum := u64_id (by omega) (by omega)
    have hnw : IntKind.u64.wrap n = n := u64_id hn (by omega)
    focus
      refine Xloop_intro _ _ _ _ _ (fun k f G' => ∃ (i : Nat) (o : Value) (r : Value), k = l.length - i ∧ (i ≤ l.length) ∧ (Row Rp.int 3 G G' o (qsF n l.sum (l.take i))) ∧ (Row rRest 91 G G' r (rsF n l.sum (l.take i))) ∧ (RSl Rp.int G' (.slice a l.length c) l) ∧ (G.le G') ∧ f 32 = V i ∧ f 8 = o ∧ f 9 = r ∧ f 10 = V (n - (qsF n l.sum (l.take i)).sum) ∧ f 0 = Go.GL.V n ∧ f 5 = Go.GL.V l.sum ∧ f 30 = Go.Value.slice a l.length c ∧ f 31 = Go.Value.int Go.IntKind.i64 ↑l.length) _ ⟨0, .slice none 0 0, .slice none 0 0, rfl, ?_, ?_, ?_, ?_, ?_, by simp (maxDischargeDepth := 9) only [↓gB, gV, gT, reduceIte, reduceCtorEq, Nat.reduceEqDiff, Nat.reduceAdd, Nat.reduceSub, Nat.reduceLeDiff, Nat.reduceLT, Int.reduceEq, Nat.reduceMul, f21, f5, f0, f1, f19, f20, c1, hsw, hnw, qs_nil, List.sum_nil, Int.sub_zero, and_self]⟩ ?_
      · omega
      · (exact Row.nil; done)
      · (exact Row.nil; done)
      · assumption
      · exact le_refl _
      rintro k f G' ⟨i, o, r, rfl, hi, ho, hr, hv, hle, f32, f8, f9, f10, f0, f5, f30, f31⟩
    obtain ⟨oa, oc, rfl⟩ := ho.val
    obtain ⟨ra, rc, rfl⟩ := hr.val
    have hol : (qsF n l.sum (l.take i)).length ≤ 1000 := by unfold qsF; rw [List.length_map, List.length_take]; omega
    have hrl : (rsF n l.sum (l.take i)).length ≤ 1000 := by unfold rsF; rw [List.length_mapIdx, List.length_take]; omega
    have hqb := sum_b (qs_b hn hn2 hs (l := l.take i) (fun p hp => ⟨(hl p (List.mem_of_mem_take hp)).1, hmx p (List.mem_of_mem_take hp)⟩))
    simp (maxDischargeDepth := 9) only [↓gB, gV, gT, reduceIte, reduceCtorEq, Nat.reduceEqDiff, Nat.reduceAdd, Nat.reduceSub, Nat.reduceLeDiff, Nat.reduceLT, Int.reduceEq, Nat.reduceMul, f21, f5, f0, f1, f19, f20, c1, hsw, hnw, f32, f10, f0, f5, f30, f31, f8, f9]
    refine Xc_split _ _ _ _ _ (fun c1 => ?_) (fun c1 => ?_)
    · obtain ⟨x, hx⟩ : ∃ x, l[i]? = some x := ⟨_, List.getElem?_eq_getElem (by omega)⟩
      have hxb := hl x (List.mem_of_getElem? hx)
      have hxs := hmx x (List.mem_of_getElem? hx)
      have hxw : IntKind.u64.wrap x = x := u64_id hxb.1 (by omega)
      have hm0 : 0 ≤ n * x := Int.mul_nonneg hn hxb.1
      have hm1 : n * x ≤ 1000000000 * 1000000000 := Int.mul_le_mul hn2 hxb.2 hxb.1 (by omega)
      have hm2 : n * x ≤ 1000000000000000000 := by omega
      have hq0 := qs_b hn hn2 hs (l := [x]) (by simp; omega) (n * x / l.sum) (by simp [qsF])
      have hqw : IntKind.i64.wrap (n * x / l.sum) = n * x / l.sum := wrap_id (by omega)
      have hqt := qs_take (n := n) (s := l.sum) hx
      have hleft : n - (qsF n l.sum (l.take (i + 1))).sum = n - (qsF n l.sum (l.take i)).sum - n * x / l.sum := by rw [hqt, List.sum_append]; simp; omega
      have hrt := rs_take (n := n) (s := l.sum) hx
      simp (maxDischargeDepth := 9) only [↓gB, gV, gT, reduceIte, reduceCtorEq, Nat.reduceEqDiff, Nat.reduceAdd, Nat.reduceSub, Nat.reduceLeDiff, Nat.reduceLT, Int.reduceEq, Nat.reduceMul, f21, f5, f0, f1, f19, f20, c1, hsw, hnw, f32, f10, f0, f5, f30, f31, f8, f9, c1, hxw, hqw]
      obtain ⟨x1, a1, s1, m1, rfl, ⟨rfl, w1⟩, e1⟩ := hv.at1 (i) (by omega) rfl
      simp (maxDischargeDepth := 9) only [↓gB, gV, gT, reduceIte, reduceCtorEq, Nat.reduceEqDiff, Nat.reduceAdd, Nat.reduceSub, Nat.reduceLeDiff, Nat.reduceLT, Int.reduceEq, Nat.reduceMul, f21, f5, f0, f20, c1, hsw, hnw, f32, f10, f0, f5, f31, f8, f9, c1, hxw, hqw, f1, f19, f30, e1]
      refine vguard_intro (by simp) ?_
      obtain rfl : x = x1 := by rw [hx] at m1; cases m1; rfl
      focus
        simp (maxDischargeDepth := 9) only [↓gB, gV, gT, reduceIte, reduceCtorEq, Nat.reduceEqDiff, Nat.reduceAdd, Nat.reduceSub, Nat.reduceLeDiff, Nat.reduceLT, Int.reduceEq, Nat.reduceMul, f21, f5, f0, f20, c1, hsw, hnw, f32, f10, f0, f5, f31, f8, f9, c1, hxw, hqw, f1, f19, f30, e1, hleft]
        refine Ycp (p60 (by assumption) (by assumption) (by omega) (by omega)) ?_
        simp (maxDischargeDepth := 9) only [↓gB, gV, gT, reduceIte, reduceCtorEq, Nat.reduceEqDiff, Nat.reduceAdd, Nat.reduceSub, Nat.reduceLeDiff, Nat.reduceLT, Int.reduceEq, Nat.reduceMul, f21, f5, f0, f20, c1, hsw, hnw, f32, f10, f0, f5, f31, f8, f9, c1, hxw, hqw, f1, f19, f30, e1, hleft]
        refine Ycp (p61 (by assumption) (by assumption) (by assumption)) ?_
        simp (maxDischargeDepth := 9) only [↓gB, gV, gT, reduceIte, reduceCtorEq, Nat.reduceEqDiff, Nat.reduceAdd, Nat.reduceSub, Nat.reduceLeDiff, Nat.reduceLT, Int.reduceEq, Nat.reduceMul, f21, f5, f0, f20, c1, hsw, hnw, f32, f10, f0, f5, f31, f8, f9, c1, hxw, hqw, f1, f19, f30, e1, hleft]
        refine Yn2 fun r1 h1 => ?_
        simp (maxDischargeDepth := 9) only [↓gB, gV, gT, reduceIte, reduceCtorEq, Nat.reduceEqDiff, Nat.reduceAdd, Nat.reduceSub, Nat.reduceLeDiff, Nat.reduceLT, Int.reduceEq, Nat.reduceMul, f21, f5, f0, f20, c1, hsw, hnw, f32, f10, f0, f5, f31, f8, f9, c1, hxw, hqw, f1, f19, f30, e1, h1, hleft]
        refine Row.app1 sl23 (Row.put _ h1 ho) (by exact put_self _ _ _) (y := _) ⟨rfl, (by first | exact (RSl.put _ h1 hv) | omega | decide | assumption | (unfold i64; omega) | (unfold i64 at *; omega) | (constructor <;> omega))⟩ (by omega) (GH.le.trans hle (le_put h1 _)) fun v1 G1 w1 k1 l1 => ?_
        replace hr := Row.keepTy (Row.put _ h1 hr) (Row.put _ h1 ho) k1 (by decide)
        replace hv := RSl.appd (RSl.put _ h1 hv) (Row.put _ h1 ho) k1
        simp (maxDischargeDepth := 9) only [↓gB, gV, gT, reduceIte, reduceCtorEq, Nat.reduceEqDiff, Nat.reduceAdd, Nat.reduceSub, Nat.reduceLeDiff, Nat.reduceLT, Int.reduceEq, Nat.reduceMul, f21, f5, f0, f20, c1, hsw, hnw, f32, f10, f0, f5, f31, f8, f9, c1, hxw, hqw, f1, f19, f30, e1, h1, k1, hleft]
        refine Yn2 fun r2 h2 => ?_
        simp (maxDischargeDepth := 9) only [↓gB, gV, gT, reduceIte, reduceCtorEq, Nat.reduceEqDiff, Nat.reduceAdd, Nat.reduceSub, Nat.reduceLeDiff, Nat.reduceLT, Int.reduceEq, Nat.reduceMul, f21, f5, f0, f20, c1, hsw, hnw, f32, f10, f0, f5, f31, f8, f9, c1, hxw, hqw, f1, f19, f30, e1, h1, k1, h2, hleft]
        refine Row.app1 sl85 (Row.put _ h2 hr) (by exact put_self _ _ _) (y := ⟨_, _⟩) rfl (by omega) (GH.le.trans l1 (le_put h2 _)) fun v2 G2 w2 k2 l2 => ?_
        replace hv := RSl.appd (RSl.put _ h2 hv) (Row.put _ h2 hr) k2
        replace w1 := Row.keepTy (Row.put _ h2 w1) (Row.put _ h2 hr) k2 (by decide)
        simp (maxDischargeDepth := 9) only [↓gB, gV, gT, reduceIte, reduceCtorEq, Nat.reduceEqDiff, Nat.reduceAdd, Nat.reduceSub, Nat.reduceLeDiff, Nat.reduceLT, Int.reduceEq, Nat.reduceMul, f21, f5, f0, f20, c1, hsw, hnw, f32, f10, f0, f5, f31, f8, f9, c1, hxw, hqw, f1, f19, f30, e1, h1, k1, h2, k2, hleft]
        have q1 : Go.IntKind.i64.wrap (n - (Go.Proofs.YtdepecjjahodjaaDoor.qsF n l.sum (List.take i l)).sum - n * x / l.sum) = n - (Go.Proofs.YtdepecjjahodjaaDoor.qsF n l.sum (List.take i l)).sum - n * x / l.sum := wrap_id (by omega)
        simp (maxDischargeDepth := 9) only [↓gB, gV, gT, reduceIte, reduceCtorEq, Nat.reduceEqDiff, Nat.reduceAdd, Nat.reduceSub, Nat.reduceLeDiff, Nat.reduceLT, Int.reduceEq, Nat.reduceMul, f21, f5, f0, f20, c1, hsw, hnw, f32, f10, f0, f5, f31, f8, f9, c1, hxw, hqw, f1, f19, f30, e1, h1, k1, h2, k2, q1, hleft]
        have q2 : Go.IntKind.i64.wrap (↑i + 1) = ↑i + 1 := wrap_id (by omega)
        simp (maxDischargeDepth := 9) only [↓gB, gV, gT, reduceIte, reduceCtorEq, Nat.reduceEqDiff, Nat.reduceAdd, Nat.reduceSub, Nat.reduceLeDiff, Nat.reduceLT, Int.reduceEq, Nat.reduceMul, f21, f5, f0, f20, c1, hsw, hnw, f32, f10, f0, f5, f31, f8, f9, c1, hxw, hqw, f1, f19, f30, e1, h1, k1, h2, k2, q1, q2, hleft]
        rw [N_lp]
        refine ⟨_, ?_, _, sub_refl _, i + 1, v1, v2, rfl, ?_, ?_, ?_, ?_, ?_, by simp (maxDischargeDepth := 9) only [↓gB, gV, gT, reduceIte, reduceCtorEq, Nat.reduceEqDiff, Nat.reduceAdd, Nat.reduceSub, Nat.reduceLeDiff, Nat.reduceLT, Int.reduceEq, Nat.reduceMul, f21, f5, f0, f20, c1, hsw, hnw, f32, f10, f0, f5, f31, f8, f9, c1, hxw, hqw, f1, f19, f30, e1, h1, k1, h2, k2, q1, q2, hleft, nat_succ, and_self]⟩
        · omega
        · omega
        · (rw [hqt]; assumption; done)
        · (rw [hrt]; assumption; done)
        · assumption
        · assumption
    · have e : l.take i = l := List.take_of_length_le (by omega)
      rw [e] at ho hr f8 f9 f10 hqb hol hrl
      have hrn : (rsF n l.sum l).length = l.length := by unfold rsF; rw [List.length_mapIdx]
      have hon : (qsF n l.sum l).length = l.length := by unfold qsF; rw [List.length_map]
      have hlr := left_range (n := n) hs
      have hlf : n - (qsF n l.sum l).sum = leftF n l.sum l := rfl
      rw [hlf] at f10
      simp (maxDischargeDepth := 9) only [↓gB, gV, gT, reduceIte, reduceCtorEq, Nat.reduceEqDiff, Nat.reduceAdd, Nat.reduceSub, Nat.reduceLeDiff, Nat.reduceLT, Int.reduceEq, Nat.reduceMul, f21, f5, f0, f1, f19, f20, c1, hsw, hnw, f32, f10, f0, f5, f30, f31, f8, f9, c1]
      refine Ycall_intro (md := none) (u62 (cf := cfR) (key := fun x => - x.left) (Q := fun _ => True) (fa := []) (fb := []) (n := 0) enD cfR_lt hr (show (rsF n l.sum l).length ≤ 1000000000 by omega) (fun _ _ => trivial) (fun G' _ x y _ _ => p63)) ?_
      rintro u G2 ⟨rfl, hr2, hk, hl2⟩
      replace ho := Row.keepTy ho hr hk (by decide)
      replace hle := hl2 hle
      obtain ⟨G3, hs3, hrs, hk3, hl3⟩ := hr2.freeze
      refine Ysub hs3 ?_
      replace ho := Row.keepTy ho hr2 hk3 (by decide)
      replace hle := hl3 hle
      have hsl := (isort_perm cfR (rsF n l.sum l)).length_eq
      have hcap : (rsF n l.sum l).length ≤ rc := by
        obtain ⟨_, _, _, hv', _, h2, _⟩ := hrs
        cases hv'; exact h2
      obtain ⟨m, hm⟩ : ∃ m : Nat, leftF n l.sum l = (m : Int) := ⟨(leftF n l.sum l).toNat, by omega⟩
      have ht : RSl rRest G3 (.slice ra m rc) ((isort cfR (rsF n l.sum l)).take m) := RSl.take hrs (by omega)
      have hLt : ((isort cfR (rsF n l.sum l)).take m).length = m := by rw [List.length_take]; omega
      have hLi : ∀ x ∈ (isort cfR (rsF n l.sum l)).take m, 0 ≤ x.i ∧ x.i < l.length := fun x hx => rs_i x ((isort_perm cfR _).mem_iff.1 (List.mem_of_mem_take hx))
      have hdiv : divideF n l = incs ((isort cfR (rsF n l.sum l)).take m) (qsF n l.sum l) := by unfold divideF; rw [hm, Int.toNat_natCast]
      have hm1000 : m ≤ 1000 := by omega
      generalize (isort cfR (rsF n l.sum l)).take m = L at *
      clear hrs hr hr2 hk hk3 hl2 hl3
      rw [hm] at f10
      simp (maxDischargeDepth := 9) only [↓gB, gV, gT, reduceIte, reduceCtorEq, Nat.reduceEqDiff, Nat.reduceAdd, Nat.reduceSub, Nat.reduceLeDiff, Nat.reduceLT, Int.reduceEq, Nat.reduceMul, f21, f5, f0, f1, f19, f20, c1, hsw, hnw, f32, f0, f5, f30, f31, f8, f9, c1, f10]
      refine vguard_intro (by omega) ?_
      focus
        refine Xloop_intro _ _ _ _ _ (fun k f G' => ∃ (j : Nat), k = m - j ∧ (j ≤ m) ∧ (Row Rp.int 3 G G' (.slice oa (qsF n l.sum l).length oc) (incs (L.take j) (qsF n l.sum l))) ∧ (RSl rRest G' (.slice ra m rc) L) ∧ (G.le G') ∧ f 75 = V j ∧ f 8 = Go.Value.slice oa (Go.Proofs.YtdepecjjahodjaaDoor.qsF n l.sum l).length oc ∧ f 73 = Go.Value.slice ra m rc ∧ f 74 = Go.Value.int Go.IntKind.i64 ↑m) _ ⟨0, rfl, ?_, ?_, ?_, ?_, by simp (maxDischargeDepth := 9) only [↓gB, gV, gT, reduceIte, reduceCtorEq, Nat.reduceEqDiff, Nat.reduceAdd, Nat.reduceSub, Nat.reduceLeDiff, Nat.reduceLT, Int.reduceEq, Nat.reduceMul, f21, f5, f0, f1, f19, f20, c1, hsw, hnw, f32, f0, f5, f30, f31, f8, f9, c1, f10, and_self]⟩ ?_
        · omega
        · assumption
        · assumption
        · assumption
        rintro k f G' ⟨j, rfl, hj, ho, ht, hle, f75, f8, f73, f74⟩
      simp (maxDischargeDepth := 9) only [↓gB, gV, gT, reduceIte, reduceCtorEq, Nat.reduceEqDiff, Nat.reduceAdd, Nat.reduceSub, Nat.reduceLeDiff, Nat.reduceLT, Int.reduceEq, Nat.reduceMul, f21, f5, f0, f1, f19, f20, c1, hsw, hnw, f32, f0, f5, f30, f31, f8, f9, c1, f10, f75, f8, f73, f74]
      have hil : (incs (L.take j) (qsF n l.sum l)).length = l.length := by rw [incs_len, hon]
      have hib := incs_b (L.take j) (qsF n l.sum l) (qs_b hn hn2 hs (l := l) (fun p hp => ⟨(hl p hp).1, hmx p hp⟩))
      have hjl : (L.take j).length ≤ 1000 := by rw [List.length_take]; omega
      refine Xc_split _ _ _ _ _ (fun c2 => ?_) (fun c2 => ?_)
      · obtain ⟨x, hx⟩ : ∃ x, L[j]? = some x := ⟨_, List.getElem?_eq_getElem (by omega)⟩
        have hxi := hLi x (List.mem_of_getElem? hx)
        obtain ⟨y, hy⟩ : ∃ y, (incs (L.take j) (qsF n l.sum l))[x.i.toNat]? = some y := ⟨_, List.getElem?_eq_getElem (by omega)⟩
        have hyb := hib y (List.mem_of_getElem? hy)
        have hin := (incs_take (o := qsF n l.sum l) hx).trans (modify_set hy)
        have hxt : ((x.i.toNat : Nat) : Int) = x.i := by omega
        simp (maxDischargeDepth := 9) only [↓gB, gV, gT, reduceIte, reduceCtorEq, Nat.reduceEqDiff, Nat.reduceAdd, Nat.reduceSub, Nat.reduceLeDiff, Nat.reduceLT, Int.reduceEq, Nat.reduceMul, f21, f5, f0, f1, f19, f20, c1, hsw, hnw, f32, f0, f5, f30, f31, f8, f9, c1, f10, f75, f8, f73, f74, c2]
        obtain ⟨x1, a1, s1, m1, rfl, rfl, e1⟩ := ht.at (j) (by omega) 2 rfl
        simp (maxDischargeDepth := 9) only [↓gB, gV, gT, reduceIte, reduceCtorEq, Nat.reduceEqDiff, Nat.reduceAdd, Nat.reduceSub, Nat.reduceLeDiff, Nat.reduceLT, Int.reduceEq, Nat.reduceMul, f21, f5, f0, f1, f19, f20, c1, hsw, hnw, f32, f0, f5, f30, f31, f8, c1, f10, f75, f8, f74, c2, f9, f73, e1]
        refine vguard_intro (by simp) ?_
        refine Yn2 fun r1 h1 => ?_
        simp (maxDischargeDepth := 9) only [↓gB, gV, gT, reduceIte, reduceCtorEq, Nat.reduceEqDiff, Nat.reduceAdd, Nat.reduceSub, Nat.reduceLeDiff, Nat.reduceLT, Int.reduceEq, Nat.reduceMul, f21, f5, f0, f1, f19, f20, c1, hsw, hnw, f32, f0, f5, f30, f31, f8, c1, f10, f75, f8, f74, c2, f9, f73, e1, h1]
        obtain rfl : x = x1 := by rw [hx] at m1; cases m1; rfl
        obtain ⟨x2, a2, s2, m2, rfl, ⟨rfl, w2⟩, e2⟩ := ho.at1 ((Int.toNat (x.i))) (by omega) rfl
        simp (maxDischargeDepth := 9) only [↓gB, gV, gT, reduceIte, reduceCtorEq, Nat.reduceEqDiff, Nat.reduceAdd, Nat.reduceSub, Nat.reduceLeDiff, Nat.reduceLT, Int.reduceEq, Nat.reduceMul, f21, f5, f0, f1, f19, f20, c1, hsw, hnw, f32, f0, f5, f30, f31, c1, f10, f75, f74, c2, f9, f73, h1, e1, f8, f8, e2]
        refine vguard_intro (by omega) ?_
        refine vguard_intro (by omega) ?_
        obtain rfl : y = x2 := by rw [hy] at m2; cases m2; rfl
        have hyw : IntKind.i64.wrap (y + 1) = y + 1 := wrap_id (by omega)
        focus
          simp (maxDischargeDepth := 9) only [↓gB, gV, gT, reduceIte, reduceCtorEq, Nat.reduceEqDiff, Nat.reduceAdd, Nat.reduceSub, Nat.reduceLeDiff, Nat.reduceLT, Int.reduceEq, Nat.reduceMul, f21, f5, f0, f1, f19, f20, c1, hsw, hnw, f32, f0, f5, f30, f31, c1, f10, f75, f74, c2, f9, f73, h1, e1, f8, f8, e2, hyw]
          refine Yrow1 (Row.put _ h1 ho) rfl (by first | omega | (simp only [List.length_set]; omega)) (fun _ _ => ⟨rfl, (by first | assumption | (unfold i64 at *; omega))⟩) fun G1 w1 i1 k1 kn1 l1 => ?_
          replace hle := l1 (GH.le.trans hle (le_put h1 _))
          replace ht := RSl.ile (RSl.put _ h1 ht) i1
          simp (maxDischargeDepth := 9) only [↓gB, gV, gT, reduceIte, reduceCtorEq, Nat.reduceEqDiff, Nat.reduceAdd, Nat.reduceSub, Nat.reduceLeDiff, Nat.reduceLT, Int.reduceEq, Nat.reduceMul, f21, f5, f0, f1, f19, f20, c1, hsw, hnw, f32, f0, f5, f30, f31, c1, f10, f75, f74, c2, f9, f73, h1, e1, f8, f8, e2, hyw, k1, kn1]
          have q1 : Go.IntKind.i64.wrap (↑j + 1) = ↑j + 1 := wrap_id (by omega)
          simp (maxDischargeDepth := 9) only [↓gB, gV, gT, reduceIte, reduceCtorEq, Nat.reduceEqDiff, Nat.reduceAdd, Nat.reduceSub, Nat.reduceLeDiff, Nat.reduceLT, Int.reduceEq, Nat.reduceMul, f21, f5, f0, f1, f19, f20, c1, hsw, hnw, f32, f0, f5, f30, f31, c1, f10, f75, f74, c2, f9, f73, h1, e1, f8, f8, e2, hyw, k1, kn1, q1]
          rw [N_lp]
          refine ⟨_, ?_, _, sub_refl _, j + 1, rfl, ?_, ?_, ?_, ?_, by simp (maxDischargeDepth := 9) only [↓gB, gV, gT, reduceIte, reduceCtorEq, Nat.reduceEqDiff, Nat.reduceAdd, Nat.reduceSub, Nat.reduceLeDiff, Nat.reduceLT, Int.reduceEq, Nat.reduceMul, f21, f5, f0, f1, f19, f20, c1, hsw, hnw, f32, f0, f5, f30, f31, c1, f10, f75, f74, c2, f9, f73, h1, e1, f8, f8, e2, hyw, k1, kn1, q1, nat_succ, and_self]⟩
          · omega
          · omega
          · (rw [hin]; assumption; done)
          · assumption
          · assumption
      · simp (maxDischargeDepth := 9) only [↓gB, gV, gT, reduceIte, reduceCtorEq, Nat.reduceEqDiff, Nat.reduceAdd, Nat.reduceSub, Nat.reduceLeDiff, Nat.reduceLT, Int.reduceEq, Nat.reduceMul, f21, f5, f0, f1, f19, f20, c1, hsw, hnw, f32, f0, f5, f30, f31, f8, f9, c1, f10, f75, f8, f73, f74, c2]
        have e2 : L.take j = L := List.take_of_length_le (by omega)
        rw [e2, ← hdiv] at ho
        obtain ⟨G4, hs4, hl4, hr4⟩ := ho.fin hle
        have hdl : (divideF n l).length = (qsF n l.sum l).length := by rw [hdiv, incs_len]
        exact Kup_gives hs4 hl4 hr4
theorem g22b {G0 : GH} {n : Int} {v : Value} {l : List Int} (hv : RSl Rp.int G0 v l) (hlen : l.length ≤ 1000000000) : Gives Tryd.prog G0 22 [V n, v] (fun u G' => ∃ x, RSl Rp.int G' x (if divideE n l = 0 then divideF n l else []) ∧ u = .tuple #[x, V (divideE n l)]) := by
  intro G hG; replace hv := hv.le hG
  clear hG G0
  refine enter Tryd.func22 31 #[.tmp 4, .tmp 5] rfl Tryd.ntmps22 rfl (by decide +kernel) rfl ?_
  obtain ⟨a, c, rfl⟩ := hv.val
  cases hn : within n 0 1000000000
  · have e : divideE n l = 1 := by simp [divideE, hn]
    simp (maxDischargeDepth := 9) only [↓gB, gV, gT, reduceIte, reduceCtorEq, Nat.reduceEqDiff, Nat.reduceAdd, Nat.reduceSub, Nat.reduceLeDiff, Nat.reduceLT, Int.reduceEq, Nat.reduceMul, hn, e]
    refine Ycp (p45) ?_
    simp (maxDischargeDepth := 9) only [↓gB, gV, gT, reduceIte, reduceCtorEq, Nat.reduceEqDiff, Nat.reduceAdd, Nat.reduceSub, Nat.reduceLeDiff, Nat.reduceLT, Int.reduceEq, Nat.reduceMul, hn, e]
    exact Kup_gives (sub_refl _) (le_refl _) ⟨_, RSl.nil _ _, rfl⟩
  · have hnb := within_iff.1 hn
    simp (maxDischargeDepth := 9) only [↓gB, gV, gT, reduceIte, reduceCtorEq, Nat.reduceEqDiff, Nat.reduceAdd, Nat.reduceSub, Nat.reduceLeDiff, Nat.reduceLT, Int.reduceEq, Nat.reduceMul, hn]
    refine Ycp (p45) ?_
    simp (maxDischargeDepth := 9) only [↓gB, gV, gT, reduceIte, reduceCtorEq, Nat.reduceEqDiff, Nat.reduceAdd, Nat.reduceSub, Nat.reduceLeDiff, Nat.reduceLT, Int.reduceEq, Nat.reduceMul, hn]
    refine Xc_split _ _ _ _ _ (fun c0 => ?_) (fun c0 => ?_)
    · have e : divideE n l = 2 := by simp [divideE, hn, show 1000 < l.length by omega]
      simp (maxDischargeDepth := 9) only [↓gB, gV, gT, reduceIte, reduceCtorEq, Nat.reduceEqDiff, Nat.reduceAdd, Nat.reduceSub, Nat.reduceLeDiff, Nat.reduceLT, Int.reduceEq, Nat.reduceMul, hn, c0, e]
      exact Kup_gives (sub_refl _) (le_refl _) ⟨_, RSl.nil _ _, rfl⟩
    · simp (maxDischargeDepth := 9) only [↓gB, gV, gT, reduceIte, reduceCtorEq, Nat.reduceEqDiff, Nat.reduceAdd, Nat.reduceSub, Nat.reduceLeDiff, Nat.reduceLT, Int.reduceEq, Nat.reduceMul, hn, c0]
      focus
        refine Xloop_intro _ _ _ _ _ (fun k f G' => ∃ (i : Nat), k = l.length - i ∧ (i ≤ l.length) ∧ (partsOk (l.take i) = true) ∧ (G = G') ∧ f 16 = V i ∧ f 6 = V (l.take i).sum ∧ f 0 = Go.GL.V n ∧ f 1 = Go.Value.slice a l.length c ∧ f 14 = Go.Value.slice a l.length c ∧ f 15 = Go.Value.int Go.IntKind.i64 ↑l.length) _ ⟨0, rfl, ?_, ?_, rfl, by simp (maxDischargeDepth := 9) only [↓gB, gV, gT, reduceIte, reduceCtorEq, Nat.reduceEqDiff, Nat.reduceAdd, Nat.reduceSub, Nat.reduceLeDiff, Nat.reduceLT, Int.reduceEq, Nat.reduceMul, hn, c0, List.sum_nil, and_self]⟩ ?_
        · omega
        · rfl
        rintro k f G' ⟨i, rfl, hi, hp, rfl, f16, f6, f0, f1, f14, f15⟩
      have hb := sum_b (parts_b hp)
      have hlt : (l.take i).length ≤ i := by rw [List.length_take]; omega
      simp (maxDischargeDepth := 9) only [↓gB, gV, gT, reduceIte, reduceCtorEq, Nat.reduceEqDiff, Nat.reduceAdd, Nat.reduceSub, Nat.reduceLeDiff, Nat.reduceLT, Int.reduceEq, Nat.reduceMul, hn, c0, hp, f16, f6, f0, f1, f14, f15]
      refine Xc_split _ _ _ _ _ (fun c1 => ?_) (fun c1 => ?_)
      · obtain ⟨x, hx⟩ : ∃ x, l[i]? = some x := ⟨_, List.getElem?_eq_getElem (by omega)⟩
        have hst := sum_take hx
        simp (maxDischargeDepth := 9) only [↓gB, gV, gT, reduceIte, reduceCtorEq, Nat.reduceEqDiff, Nat.reduceAdd, Nat.reduceSub, Nat.reduceLeDiff, Nat.reduceLT, Int.reduceEq, Nat.reduceMul, hn, c0, hp, f16, f6, f0, f1, f14, f15, c1]
        obtain ⟨x1, a1, s1, m1, rfl, ⟨rfl, w1⟩, e1⟩ := hv.at1 (i) (by omega) rfl
        simp (maxDischargeDepth := 9) only [↓gB, gV, gT, reduceIte, reduceCtorEq, Nat.reduceEqDiff, Nat.reduceAdd, Nat.reduceSub, Nat.reduceLeDiff, Nat.reduceLT, Int.reduceEq, Nat.reduceMul, hn, c0, hp, f16, f6, f0, f15, c1, f1, f14, e1]
        refine vguard_intro (by simp) ?_
        refine Ycp (p45) ?_
        simp (maxDischargeDepth := 9) only [↓gB, gV, gT, reduceIte, reduceCtorEq, Nat.reduceEqDiff, Nat.reduceAdd, Nat.reduceSub, Nat.reduceLeDiff, Nat.reduceLT, Int.reduceEq, Nat.reduceMul, hn, c0, hp, f16, f6, f0, f15, c1, f1, f14, e1]
        obtain rfl : x = x1 := by rw [hx] at m1; cases m1; rfl
        cases hxw : within x 0 1000000000
        · have e : divideE n l = 1 := by
            have : partsOk l = false := by
              unfold partsOk; rw [List.all_eq_false]; exact ⟨x, List.mem_of_getElem? hx, by simp [hxw]⟩
            have h0 : ¬ 1000 < l.length := by omega
            simp [divideE, hn, this, h0]
          simp (maxDischargeDepth := 9) only [↓gB, gV, gT, reduceIte, reduceCtorEq, Nat.reduceEqDiff, Nat.reduceAdd, Nat.reduceSub, Nat.reduceLeDiff, Nat.reduceLT, Int.reduceEq, Nat.reduceMul, hn, c0, hp, f16, f6, f0, f15, c1, f1, f14, e1, hxw, e]
          exact Kup_gives (sub_refl _) (le_refl _) ⟨_, RSl.nil _ _, rfl⟩
        · have hxb := within_iff.1 hxw
          have hp' : partsOk (l.take (i + 1)) = true := by unfold partsOk at *; rw [take_at hx, List.all_append, hp]; simp [hxw]
          focus
            simp (maxDischargeDepth := 9) only [↓gB, gV, gT, reduceIte, reduceCtorEq, Nat.reduceEqDiff, Nat.reduceAdd, Nat.reduceSub, Nat.reduceLeDiff, Nat.reduceLT, Int.reduceEq, Nat.reduceMul, hn, c0, hp, f16, f6, f0, f15, c1, f1, f14, e1, hxw, hp', hst]
            have q1 : Go.IntKind.i64.wrap ((List.take i l).sum + x) = (List.take i l).sum + x := wrap_id (by omega)
            simp (maxDischargeDepth := 9) only [↓gB, gV, gT, reduceIte, reduceCtorEq, Nat.reduceEqDiff, Nat.reduceAdd, Nat.reduceSub, Nat.reduceLeDiff, Nat.reduceLT, Int.reduceEq, Nat.reduceMul, hn, c0, hp, f16, f6, f0, f15, c1, f1, f14, e1, hxw, hp', q1, hst]
            have q2 : Go.IntKind.i64.wrap (↑i + 1) = ↑i + 1 := wrap_id (by omega)
            simp (maxDischargeDepth := 9) only [↓gB, gV, gT, reduceIte, reduceCtorEq, Nat.reduceEqDiff, Nat.reduceAdd, Nat.reduceSub, Nat.reduceLeDiff, Nat.reduceLT, Int.reduceEq, Nat.reduceMul, hn, c0, hp, f16, f6, f0, f15, c1, f1, f14, e1, hxw, hp', q1, q2, hst]
            rw [N_lp]
            refine ⟨_, ?_, _, ?_, i + 1, rfl, ?_, ?_, rfl, by simp (maxDischargeDepth := 9) only [↓gB, gV, gT, reduceIte, reduceCtorEq, Nat.reduceEqDiff, Nat.reduceAdd, Nat.reduceSub, Nat.reduceLeDiff, Nat.reduceLT, Int.reduceEq, Nat.reduceMul, hn, c0, hp, f16, f6, f0, f15, c1, f1, f14, e1, hxw, hp', q1, q2, hst, nat_succ, and_self]⟩
            · omega
            · exact sub_refl _
            · omega
            · assumption
      · have e2 : l.take i = l := List.take_of_length_le (by omega)
        rw [e2] at hp f6 hb
        have h0 : ¬ 1000 < l.length := by omega
        by_cases c2 : l.sum = 0
        · have e : divideE n l = 8 := by simp [divideE, hn, hp, c2, h0]
          simp (maxDischargeDepth := 9) only [↓gB, gV, gT, reduceIte, reduceCtorEq, Nat.reduceEqDiff, Nat.reduceAdd, Nat.reduceSub, Nat.reduceLeDiff, Nat.reduceLT, Int.reduceEq, Nat.reduceMul, hn, c0, hp, f16, f6, f0, f1, f14, f15, c1, c2, e]
          exact Kup_gives (sub_refl _) (le_refl _) ⟨_, RSl.nil _ _, rfl⟩
        · have e : divideE n l = 0 := by simp [divideE, hn, hp, c2, h0]
          have hs0 : 0 < l.sum := by omega
          have hpb := parts_b hp
          simp (maxDischargeDepth := 9) only [↓gB, gV, gT, reduceIte, reduceCtorEq, Nat.reduceEqDiff, Nat.reduceAdd, Nat.reduceSub, Nat.reduceLeDiff, Nat.reduceLT, Int.reduceEq, Nat.reduceMul, hn, c0, hp, f16, f6, f0, f1, f14, f15, c1, c2, e]
          refine Ycg (g48b (by assumption) (by omega) (by omega) (by assumption) (by assumption) (by omega)) ?_ ?_
          · exact upRSl _ _
          intro u1 G1 l1 w1
          replace hv := RSl.le hv l1
          obtain ⟨aw1, cw1, rfl⟩ := RSl.val w1
          simp (maxDischargeDepth := 9) only [↓gB, gV, gT, reduceIte, reduceCtorEq, Nat.reduceEqDiff, Nat.reduceAdd, Nat.reduceSub, Nat.reduceLeDiff, Nat.reduceLT, Int.reduceEq, Nat.reduceMul, hn, c0, hp, f16, f6, f0, f1, f14, f15, c1, c2, e]
          exact Kup_gives (sub_refl _) (by assumption) ⟨_, by assumption, rfl⟩
end Go.Proofs.YtdepecjjahodjaaDoor
