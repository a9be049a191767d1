/- A part of a proof: Walk and Length are as specified for all roads and arcs (statement DrivesWalkedUptoCardSaid) -/
import Derived.Test.YtjhfhacdjmokaaaGreatDoorDwGlK
import Derived.Test.YtjhfhacdjmokaaaGreatDoorDwGlMp
set_option linter.unusedSimpArgs false
set_option linter.unusedVariables false
set_option linter.unusedSectionVars false
namespace Go.GL
open Go Go.RowKit
variable {P : Program}
def Row {α : Type} (ρ : Rp α) (e : TypeId) (G0 G : GH) (v : Value) (xs : List α) : Prop := ∃ cs, OV e ρ.sz G0 G v xs.length cs ∧ Cellsof ρ G xs cs
section
variable {α : Type} {ρ : Rp α} {e : TypeId} {G0 G G' : GH} {v : Value} {xs : List α}
theorem Row.nil : Row ρ e G0 G (.slice none 0 0) ([] : List α) := ⟨[], OV.nil _ _ _ _, Cellsof.nil _ _⟩
theorem Row.val (h : Row ρ e G0 G v xs) : ∃ a c, v = .slice a xs.length c := let ⟨_, h1, _⟩ := h; h1.val
theorem Row.le (h : Row ρ e G0 G v xs) (hl : G.le G') : Row ρ e G0 G' v xs := let ⟨cs, h1, h2⟩ := h; ⟨cs, h1.le hl, h2.ile hl.ile⟩
theorem Row.put {r : Nat} (o : Obj × Bool) (hr : G r = none) (h : Row ρ e G0 G v xs) : Row ρ e G0 (G.put r o) v xs := h.le (le_put hr o)
theorem Row.turn {r : Nat} {o : Obj × Bool} (o' : Obj × Bool) (hr : G r = some o) (hne : ∀ c e fr, o.1 ≠ .cells c e fr) (hown : o.2 = true) (h : Row ρ e G0 G v xs) : Row ρ e G0 (G.put r o') v xs := by
  obtain ⟨cs, ⟨h1, h2⟩, h3⟩ := h
  refine ⟨cs, ⟨h1, h2.imp id ?_⟩, h3.ile ?_⟩
  · rintro ⟨b, cap, c, a1, a2, a3, a4⟩
    refine ⟨b, cap, c, a1, a2, ?_, a4⟩
    rw [put_ne]
    · exact a3
    · rintro rfl; rw [hr] at a3; cases a3; exact hne _ _ _ rfl
  · obtain ⟨x, t⟩ := o; cases hown; exact ile_put hr o'
theorem Row.fin (h : Row ρ e G0 G v xs) (hl : G0.le G) : ∃ G', G'.sub G ∧ G0.le G' ∧ RSl ρ G' v xs := by
  obtain ⟨cs, h1, h2⟩ := h
  obtain ⟨G', h3, h4, h5⟩ := h1.freeze h2 hl
  exact ⟨G', h3.sub, h4, h5⟩
structure SlTy (P : Program) (T e : TypeId) (sz : Nat) : Prop where
  ty : tyD P T = some (.slice e)
  size : tySz P e = sz
  pos : 0 < sz
  zero : ∃ z, tyZ P e = some z ∧ z.cells.size = sz
  bytes : tyBytes P e ≠ 0 ∧ tyBytes P e ≤ 4096
theorem Row.append {T U : TypeId} (S : SlTy P T e ρ.sz) (hrow : Row ρ e G0 G v xs) {x : Value} {ys : List α} {ds : List Value} (hr : Read G x ρ.sz ys.length ds) (hc : Cellsof ρ G ys ds) (hn : xs.length + ys.length ≤ 1073741824) (hle : G0.le G)
    {K : Value → GH → Prop} (hk : ∀ v' G', Row ρ e G0 G' v' (xs ++ ys) → (∀ r o, G r = some o → notAt v r → G' r = some o) → G0.le G' → K v' G') : gwp P (Builtin.append_ #[T, T] U #[v, x]) G K := by
  obtain ⟨hty, hsz, hpos, ⟨z, hz, hzs⟩, hb0, hb1⟩ := S
  obtain ⟨cs, hov, hcs⟩ := hrow
  refine gwp_append (e := e) (sz := ρ.sz) (G0 := G0) (n := xs.length) (m := ys.length) (cs := cs) (ds := ds) (z := z) hty hty hsz hpos hz hzs hb0 ?_ hov hr hc.all1 hle ?_
  · have h1 : (2 * (xs.length + ys.length) + 512) * tyBytes P e ≤ (2 * (xs.length + ys.length) + 512) * 4096 := Nat.mul_le_mul_left _ hb1
    have h2 : (2 * (xs.length + ys.length) + 512) * 4096 ≤ 281474976710656 := by omega
    exact Nat.le_trans h1 (Nat.le_trans h2 (by decide))
  · intro v' G' h1 h2 h3
    refine hk v' G' ⟨cs ++ ds, by rw [List.length_append]; exact h1, ?_⟩ h2 h3
    have hil : G.ile G' := by
      intro b o hb
      refine h2 b _ hb ?_
      rintro n c rfl
      rcases hov.2 with ⟨h, _⟩ | ⟨b', cap, c', h, _, hb', _⟩
      · cases h
      · cases h; rw [hb] at hb'; cases hb'
    exact (hcs.append hc).ile hil
theorem Row.app1 {T U : TypeId} (S : SlTy P T e ρ.sz) (hrow : Row ρ e G0 G v xs) {w : Nat} {y : α} {cs : List Value} {e' : TypeId} {fr : Nat × Nat} {t : Bool} (hw : G w = some (.cells cs.toArray e' fr, t)) (hy : ρ.R G y cs) (hn : xs.length + 1 ≤ 1073741824) (hle : G0.le G)
    {K : Value → GH → Prop} (hk : ∀ v' G', Row ρ e G0 G' v' (xs ++ [y]) → (∀ r o, G r = some o → notAt v r → G' r = some o) → G0.le G' → K v' G') : gwp P (Builtin.append_ #[T, T] U #[v, .slice (some ⟨w, 0, none⟩) 1 1]) G K := by
  refine Row.append S hrow (ys := [y]) (ds := cs) ⟨by simp [ρ.len hy], _, _, rfl, .inl ⟨_, rfl, ?_⟩⟩ (Cellsof.one hy) hn hle hk
  rw [gcells_if hw, List.length_singleton, Nat.one_mul, Nat.zero_add, if_pos (Nat.le_of_eq (ρ.len hy).symm), List.drop_zero, List.take_of_length_le (Nat.le_of_eq (ρ.len hy))]
theorem Row.appAll {T U : TypeId} (S : SlTy P T e ρ.sz) (hrow : Row ρ e G0 G v xs) {x : Value} {ys : List α} (hr : RSl ρ G x ys) (hn : xs.length + ys.length ≤ 1073741824) (hle : G0.le G)
    {K : Value → GH → Prop} (hk : ∀ v' G', Row ρ e G0 G' v' (xs ++ ys) → (∀ r o, G r = some o → notAt v r → G' r = some o) → G0.le G' → K v' G') : gwp P (Builtin.append_ #[T, T] U #[v, x]) G K := by
  obtain ⟨ds, h1, h2⟩ := hr.read
  exact Row.append S hrow h1 h2 hn hle hk
theorem Row.apart (h : Row ρ e G0 G v xs) {r : Nat} {o : Obj × Bool} (hr : G r = some o) (hne : ∀ c e fr, o.1 ≠ .cells c e fr) : notAt v r := by
  obtain ⟨cs, ⟨_, h2⟩, _⟩ := h
  rintro n c rfl
  rcases h2 with ⟨h, _⟩ | ⟨b, cap, c', h, _, hb, _⟩
  · cases h
  · cases h; rw [hr] at hb; cases hb; exact hne _ _ _ rfl
theorem Row.apart0 (h : Row ρ e G0 G v xs) {r : Nat} (hr : kn G0 r) : notAt v r := by
  obtain ⟨cs, ⟨_, h2⟩, _⟩ := h
  rintro n c rfl
  rcases h2 with ⟨h, _⟩ | ⟨b, cap, c', h, h0, hb, _⟩
  · cases h
  · cases h; obtain ⟨x, hx⟩ := hr; rw [h0] at hx; cases hx
theorem mapO_ne {κ β : Type} {enc : κ → Value} {ev : β → Value} {l : List (κ × β)} {t : Bool} : ∀ c e fr, ((mapO enc ev l, t) : Obj × Bool).1 ≠ .cells c e fr := by intro c e fr h; cases h
theorem iter_ne {a : Option Nat} {n m : Nat} {s : Array Nat} {t : Bool} : ∀ c e fr, ((Obj.mapIter a n s m, t) : Obj × Bool).1 ≠ .cells c e fr := by intro c e fr h; cases h
end
theorem upRSl {α : Type} (ρ : Rp α) (xs : List α) : UpR GH.le (fun u G => RSl ρ G u xs) := fun _ _ _ h hu => hu.le h
theorem upPair {α : Type} (ρ : Rp α) (xs : List α) (r : Value) : UpR GH.le (fun u G => ∃ w, RSl ρ G w xs ∧ u = Value.tuple #[w, r]) := fun _ _ _ h ⟨w, h1, h2⟩ => ⟨w, h1.le h, h2⟩
theorem Kup_gives {R : Value → GH → Prop} {G G1 G2 : GH} {u : Value} (hs : G1.sub G2) (hl : G.le G1) (hr : R u G1) : Kup (fun u G' => G.le G' ∧ R u G') u G2 := ⟨G1, hs, hl, hr⟩
theorem Gives.le {n : Nat} {args : List Value} {R : Value → GH → Prop} {G G' : GH} (h : Gives P G n args R) (hl : G.le G') : Gives P G' n args R := fun G1 h1 => h G1 (hl.trans h1)
def bsPos {α : Type} (cf : α → Int) (l : List α) : Nat := (l.takeWhile fun x => decide (cf x < 0)).length
def bsHas {α : Type} (cf : α → Int) (l : List α) : Bool := match l[bsPos cf l]? with | some x => decide (cf x = 0) | none => false
theorem bsPos_at {α : Type} {cf : α → Int} : ∀ {l : List α} {i : Nat}, i ≤ l.length → (∀ (k : Nat) x, k < i → l[k]? = some x → cf x < 0) → (∀ (k : Nat) x, i ≤ k → l[k]? = some x → ¬ cf x < 0) → bsPos cf l = i
  | [], i, h, _, _ => by simp at h; subst h; rfl
  | y :: l, 0, _, _, h2 => by
    have := h2 0 y (by omega) rfl
    unfold bsPos; rw [List.takeWhile_cons_of_neg (by simpa using this)]; rfl
  | y :: l, i + 1, h, h1, h2 => by
    have := h1 0 y (by omega) rfl
    have ih := bsPos_at (cf := cf) (l := l) (i := i) (by simpa using h) (fun k x hk hx => h1 (k + 1) x (by omega) (by simpa using hx)) (fun k x hk hx => h2 (k + 1) x (by omega) (by simpa using hx))
    unfold bsPos at ih ⊢
    rw [List.takeWhile_cons_of_pos (by simpa using this), List.length_cons, ih]
theorem mid_eq {i j : Nat} (h : (i : Int) + j ≤ 9223372036854775807) : IntKind.i64.wrap (Int.fdiv (IntKind.u64.wrap (IntKind.i64.wrap ((i : Int) + j))) (2 ^ min (Int.toNat 1) IntKind.u64.bits)) = ((i + j) / 2 : Nat) := by
  have e1 : IntKind.i64.wrap ((i : Int) + j) = (i : Int) + j := wrap_id (by omega)
  have e2 : IntKind.u64.wrap ((i : Int) + j) = (i : Int) + j := by
    unfold IntKind.wrap IntKind.bits IntKind.signed
    dsimp only
    rw [Int.emod_eq_of_lt (by omega) (by omega)]
    simp
  rw [e1, e2]
  have e3 : ((2 : Int) ^ min (Int.toNat 1) IntKind.u64.bits) = 2 := by decide
  rw [e3]
  have e4 : Int.fdiv ((i : Int) + j) 2 = (((i + j) / 2 : Nat) : Int) := by
    rw [Int.fdiv_eq_ediv_of_nonneg _ (by omega)]; omega
  rw [e4]
  exact wrap_id (by omega)
end Go.GL
