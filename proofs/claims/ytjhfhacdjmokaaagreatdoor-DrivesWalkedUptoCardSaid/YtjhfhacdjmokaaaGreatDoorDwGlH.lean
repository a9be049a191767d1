/- A part of a proof: Walk and Length are as specified for all roads and arcs (statement DrivesWalkedUptoCardSaid) -/
import Derived.Test.YtjhfhacdjmokaaaGreatDoorDwGlG
set_option linter.unusedSimpArgs false
set_option linter.unusedVariables false
set_option linter.unusedSectionVars false
namespace Go.GL
open Go Go.RowKit
variable {P : Program}
theorem one_cells {v : Value} (h : oneV v = true) : v.cells = [v].toArray := by cases v <;> simp_all [oneV, Value.cells]
theorem gcell_at {G : GH} {b o : Nat} {cs : List Value} {e : TypeId} {fr : Nat × Nat} {t : Bool} (h : G b = some (.cells cs.toArray e fr, t)) : gcell G ⟨b, o, none⟩ = cs[o]? := by
  unfold gcell; simp [h]
theorem gcells_at {G : GH} {b o n : Nat} {cs : List Value} {e : TypeId} {fr : Nat × Nat} {t : Bool} (h : G b = some (.cells cs.toArray e fr, t)) (hl : o + n ≤ cs.length) : gcells G ⟨b, o, none⟩ n = some ((cs.drop o).take n) := by
  unfold gcells; simp [h, hl]
theorem gcells_if {G : GH} {b : Nat} {cs : List Value} {e : TypeId} {fr : Nat × Nat} {t : Bool} (h : G b = some (.cells cs.toArray e fr, t)) (o n : Nat) : gcells G ⟨b, o, none⟩ n = if o + n ≤ cs.length then some ((cs.drop o).take n) else none := by
  unfold gcells; simp [h]
def GH.ile (G G' : GH) : Prop := ∀ b o, G b = some (o, false) → G' b = some (o, false)
theorem le_refl (G : GH) : G.le G := fun _ _ h => h
theorem ile_refl (G : GH) : G.ile G := fun _ _ h => h
theorem GH.le.trans {G G1 G2 : GH} (h : G.le G1) (h' : G1.le G2) : G.le G2 := fun b o hb => h' b o (h b o hb)
theorem GH.ile.trans {G G1 G2 : GH} (h : G.ile G1) (h' : G1.ile G2) : G.ile G2 := fun b o hb => h' b o (h b o hb)
theorem GH.le.ile {G G' : GH} (h : G.le G') : G.ile G' := fun b o hb => h b (o, false) hb
theorem le_put {G : GH} {b : Nat} (h : G b = none) (o : Obj × Bool) : G.le (G.put b o) := by
  intro c o' hc; unfold GH.put; split
  · rename_i e; subst e; rw [h] at hc; cases hc
  · exact hc
theorem ile_put {G : GH} {b : Nat} {o : Obj} (h : G b = some (o, true)) (o' : Obj × Bool) : G.ile (G.put b o') := by
  intro c o2 hc; unfold GH.put; split
  · rename_i e; subst e; rw [h] at hc; cases hc
  · exact hc
theorem put_self (G : GH) (b : Nat) (o : Obj × Bool) : (G.put b o) b = some o := by unfold GH.put; simp
theorem put_ne (G : GH) {b c : Nat} (o : Obj × Bool) (h : c ≠ b) : (G.put b o) c = G c := by unfold GH.put; simp [h]
theorem GH.le.cell {G G' : GH} (h : G.le G') {a : Addr} {v : Value} (hc : gcell G a = some v) : gcell G' a = some v := h.cell' hc
theorem GH.le.cells {G G' : GH} (h : G.le G') {a : Addr} {n : Nat} {cs : List Value} (hc : gcells G a n = some cs) : gcells G' a n = some cs := h.cells' hc
theorem GH.le.none {G G' : GH} (h : G.le G') {b : Nat} (hb : G' b = .none) : G b = .none := le_none h hb
theorem le_put_new {G0 G : GH} (h : G0.le G) {b : Nat} (hb : G0 b = none) (o : Obj × Bool) : G0.le (G.put b o) := by
  intro c o' hc; unfold GH.put; split
  · rename_i e; subst e; rw [hb] at hc; cases hc
  · exact h _ _ hc
def gcellsI (G : GH) (a : Addr) (n : Nat) : Option (List Value) :=
  match G a.block with
  | some (.cells c _ _, false) => if a.spot.isNone ∧ a.off + n ≤ c.size then some ((c.toList.drop a.off).take n) else none
  | _ => none
theorem gcellsI_cells {G : GH} {a : Addr} {n : Nat} {cs : List Value} (h : gcellsI G a n = some cs) : gcells G a n = some cs := by
  unfold gcellsI at h; unfold gcells
  split at h
  · rename_i c e fr hG; rw [hG]; exact h
  · cases h
theorem GH.ile.cells {G G' : GH} (h : G.ile G') {a : Addr} {n : Nat} {cs : List Value} (hc : gcellsI G a n = some cs) : gcellsI G' a n = some cs := by
  unfold gcellsI at *
  split at hc
  · rename_i c e fr hG; rw [h _ _ hG]; exact hc
  · cases hc
theorem gcell_of_cells {G : GH} {a : Addr} {n k : Nat} {cs : List Value} {v : Value} (h : gcells G a n = some cs) (hk : cs[k]? = some v) : gcell G (a.add k) = some v := by
  unfold gcells at h
  unfold gcell
  rw [add_block]
  split at h
  case h_2 => cases h
  rename_i c e fr t hG
  split at h
  case isFalse => cases h
  rename_i hc
  have hsp : a.spot = none := by have := hc.1; cases hs : a.spot <;> simp_all
  rw [add_spot _ _ hsp, add_off]
  cases h
  simp only [List.getElem?_take] at hk
  split at hk
  · simp only [List.getElem?_drop, Array.getElem?_toList] at hk; rw [hG]; simp [hk]
  · cases hk
theorem gcells_sub {G : GH} {a : Addr} {n m k : Nat} {cs : List Value} (h : gcells G a n = some cs) (hk : k + m ≤ n) : gcells G (a.add k) m = some ((cs.drop k).take m) := by
  unfold gcells at *
  rw [add_block]
  split at h
  case h_2 => cases h
  rename_i c e fr t hG
  split at h
  case isFalse => cases h
  rename_i hc
  have hsp : a.spot = none := by have := hc.1; cases hs : a.spot <;> simp_all
  rw [if_pos ⟨by rw [add_spot _ _ hsp]; rfl, by rw [add_off]; omega⟩, add_off]
  cases h
  congr 1
  rw [List.drop_take, List.take_take, List.drop_drop]
  congr 1
  omega
theorem gcellsI_sub {G : GH} {a : Addr} {n m k : Nat} {cs : List Value} (h : gcellsI G a n = some cs) (hk : k + m ≤ n) : gcellsI G (a.add k) m = some ((cs.drop k).take m) := by
  unfold gcellsI at *
  rw [add_block]
  split at h
  case h_2 => cases h
  rename_i c e fr hG
  split at h
  case isFalse => cases h
  rename_i hc
  have hsp : a.spot = none := by have := hc.1; cases hs : a.spot <;> simp_all
  rw [if_pos ⟨by rw [add_spot _ _ hsp]; rfl, by rw [add_off]; omega⟩, add_off]
  cases h
  congr 1
  rw [List.drop_take, List.take_take, List.drop_drop]
  congr 1
  omega
structure Rp (α : Type) where
  sz : Nat
  R : GH → α → List Value → Prop
  len : ∀ {G x cs}, R G x cs → cs.length = sz
  ile : ∀ {G G' x cs}, G.ile G' → R G x cs → R G' x cs
  one : ∀ {G x cs}, R G x cs → cs.all oneV = true
def RSl {α : Type} (ρ : Rp α) (G : GH) (v : Value) (xs : List α) : Prop :=
  ∃ a n c, v = .slice a n c ∧ xs.length = n ∧ n ≤ c ∧ (0 < n → ∃ ad, a = some ad ∧ ad.spot = none ∧ ∀ (i : Nat) x, xs[i]? = some x → ∃ cs, gcellsI G (ad.add (i * ρ.sz)) ρ.sz = some cs ∧ ρ.R G x cs)
theorem RSl.ile {α : Type} {ρ : Rp α} {G G' : GH} {v : Value} {xs : List α} (h : RSl ρ G v xs) (hl : G.ile G') : RSl ρ G' v xs := by
  obtain ⟨a, n, c, hv, h1, h2, h3⟩ := h
  exact ⟨a, n, c, hv, h1, h2, fun hn => let ⟨ad, e, hs, hc⟩ := h3 hn; ⟨ad, e, hs, fun i x hx => let ⟨cs, h4, h5⟩ := hc i x hx; ⟨cs, hl.cells h4, ρ.ile hl h5⟩⟩⟩
theorem RSl.le {α : Type} {ρ : Rp α} {G G' : GH} {v : Value} {xs : List α} (h : RSl ρ G v xs) (hl : G.le G') : RSl ρ G' v xs := h.ile hl.ile
theorem RSl.val {α : Type} {ρ : Rp α} {G : GH} {v : Value} {xs : List α} (h : RSl ρ G v xs) : ∃ a c, v = .slice a xs.length c := by
  obtain ⟨a, n, c, hv, h1, _⟩ := h; subst h1; exact ⟨a, c, hv⟩
theorem RSl.get {α : Type} {ρ : Rp α} {G : GH} {ad : Option Addr} {n c : Nat} {xs : List α} (h : RSl ρ G (.slice ad n c) xs) {i : Nat} {x : α} (hx : xs[i]? = some x) :
    ∃ a cs, ad = some a ∧ gcells G (a.add (i * ρ.sz)) ρ.sz = some cs ∧ ρ.R G x cs := by
  obtain ⟨a, m, c', hv, h1, h2, h3⟩ := h
  cases hv
  have hi : i < xs.length := by
    by_cases hl : i < xs.length
    · exact hl
    · rw [List.getElem?_eq_none (by omega)] at hx; cases hx
  obtain ⟨a', e, hs, hc⟩ := h3 (by omega)
  obtain ⟨cs, h4, h5⟩ := hc i x hx
  exact ⟨a', cs, e, gcellsI_cells h4, h5⟩
theorem RSl.nil {α : Type} (ρ : Rp α) (G : GH) : RSl ρ G (.slice none 0 0) [] := ⟨none, 0, 0, rfl, rfl, by omega, fun h => absurd h (by omega)⟩
def Rp.slice {α : Type} (ρ : Rp α) : Rp (List α) where
  sz := 1
  R G xs cs := ∃ v, cs = [v] ∧ RSl ρ G v xs
  len := by rintro G x cs ⟨v, rfl, _⟩; rfl
  ile := by rintro G G' x cs h ⟨v, rfl, hv⟩; exact ⟨v, rfl, hv.ile h⟩
  one := by rintro G x cs ⟨v, rfl, hv⟩; obtain ⟨a, c, rfl⟩ := hv.val; rfl
def i64 (n : Int) : Prop := -9223372036854775808 ≤ n ∧ n ≤ 9223372036854775807
def Rp.int : Rp Int where
  sz := 1
  R _ n cs := cs = [.int .i64 n] ∧ i64 n
  len := by rintro G x cs ⟨rfl, _⟩; rfl
  ile := by rintro G G' x cs h hv; exact hv
  one := by rintro G x cs ⟨rfl, _⟩; rfl
def Rp.bool : Rp Bool where
  sz := 1
  R _ n cs := cs = [.bool n]
  len := by rintro G x cs rfl; rfl
  ile := by rintro G G' x cs h hv; exact hv
  one := by rintro G x cs rfl; rfl
def Rp.str : Rp ByteArray where
  sz := 1
  R _ n cs := cs = [.string n]
  len := by rintro G x cs rfl; rfl
  ile := by rintro G G' x cs h hv; exact hv
  one := by rintro G x cs rfl; rfl
theorem wrap_id {x : Int} (h : -9223372036854775808 ≤ x ∧ x ≤ 9223372036854775807) : IntKind.i64.wrap x = x := by
  unfold IntKind.wrap IntKind.bits IntKind.signed
  dsimp only
  by_cases hx : 0 ≤ x
  · rw [Int.emod_eq_of_lt hx (by omega)]
    rw [if_neg (by simp; omega)]
  · have : x % 2 ^ 64 = x + 2 ^ 64 := by omega
    rw [this]
    rw [if_pos (by simp; omega)]; omega
def Frz (G G' : GH) : Prop := ∀ b o t, G' b = some (o, t) → ∃ t', G b = some (o, t') ∧ (t = true → t' = true)
theorem Frz.sub {G G' : GH} (h : Frz G G') : G'.sub G := h
theorem Frz.refl (G : GH) : Frz G G := fun b o t h => ⟨t, h, id⟩
theorem Frz.holds {w0 : World} {G G' : GH} {w : World} (h : Frz G G') (hw : Holds w0 G w) : Holds w0 G' w :=
  ⟨hw.below, fun b o t hb => let ⟨t', hb', _⟩ := h b o t hb; hw.obj b o t' hb', fun b o hb => let ⟨t', hb', ht⟩ := h b o true hb; hw.own b o (by rw [hb', ht rfl]), hw.drawn⟩
theorem GCalls.frz {n : Nat} {args : Array Value} {G G' : GH} {K : Value → GH → Prop} (h : Frz G G') (hc : GCalls P n args G' K) : GCalls P n args G K := fun w0 w hw => hc w0 w (h.holds hw)
theorem GCalls.frzOut {n : Nat} {args : Array Value} {G : GH} {K : Value → GH → Prop} (hc : GCalls P n args G (fun v G' => ∃ G'', Frz G' G'' ∧ K v G'')) : GCalls P n args G K :=
  fun w0 w hw => (hc w0 w hw).mono fun _ _ ⟨v, _, he, hh, _, hf, hk⟩ => ⟨v, _, he, hf.holds hh, hk⟩
theorem Frz.put {G : GH} {b : Nat} {o : Obj} (h : G b = some (o, true)) : Frz G (G.put b (o, false)) := by
  intro c o' t hc; unfold GH.put at hc; split at hc
  · rename_i e; subst e; cases hc; exact ⟨true, h, fun h => by cases h⟩
  · exact ⟨t, hc, id⟩
def OV (e : TypeId) (sz : Nat) (G0 G : GH) (v : Value) (n : Nat) (cs : List Value) : Prop :=
  cs.length = n * sz ∧ ((v = .slice none 0 0 ∧ n = 0) ∨ ∃ b cap c, v = .slice (some ⟨b, 0, none⟩) n cap ∧ G0 b = none ∧ G b = some (.cells c e (0, 0), true) ∧ c.size = cap * sz ∧ n ≤ cap ∧ c.toList.take (n * sz) = cs)
theorem OV.nil (e : TypeId) (sz : Nat) (G0 G : GH) : OV e sz G0 G (.slice none 0 0) 0 [] := ⟨by simp, .inl ⟨rfl, rfl⟩⟩
theorem OV.le {e : TypeId} {sz : Nat} {G0 G G' : GH} {v : Value} {n : Nat} {cs : List Value} (h : OV e sz G0 G v n cs) (hl : G.le G') : OV e sz G0 G' v n cs := by
  obtain ⟨h1, h2⟩ := h
  refine ⟨h1, h2.imp id ?_⟩
  rintro ⟨b, cap, c, a1, a2, a3, a4⟩
  exact ⟨b, cap, c, a1, a2, hl _ _ a3, a4⟩
theorem OV.val {e : TypeId} {sz : Nat} {G0 G : GH} {v : Value} {n : Nat} {cs : List Value} (h : OV e sz G0 G v n cs) : ∃ a c, v = .slice a n c := by
  rcases h.2 with ⟨rfl, rfl⟩ | ⟨b, cap, c, rfl, _⟩
  · exact ⟨_, _, rfl⟩
  · exact ⟨_, _, rfl⟩
def Cellsof {α : Type} (ρ : Rp α) (G : GH) (xs : List α) (cs : List Value) : Prop := ∃ css : List (List Value), cs = css.flatten ∧ css.length = xs.length ∧ ∀ (i : Nat) x c, xs[i]? = some x → css[i]? = some c → ρ.R G x c
theorem Cellsof.nil {α : Type} (ρ : Rp α) (G : GH) : Cellsof ρ G [] [] := ⟨[], rfl, rfl, by simp⟩
theorem Cellsof.one {α : Type} {ρ : Rp α} {G : GH} {x : α} {c : List Value} (h : ρ.R G x c) : Cellsof ρ G [x] c := ⟨[c], by simp, rfl, by
  intro i y d hy hd
  cases i with
  | zero => simp at hy hd; subst hy hd; exact h
  | succ i => simp at hy⟩
theorem Cellsof.append {α : Type} {ρ : Rp α} {G : GH} {xs ys : List α} {cs ds : List Value} (h : Cellsof ρ G xs cs) (h' : Cellsof ρ G ys ds) : Cellsof ρ G (xs ++ ys) (cs ++ ds) := by
  obtain ⟨a, rfl, ha, ha'⟩ := h
  obtain ⟨b, rfl, hb, hb'⟩ := h'
  refine ⟨a ++ b, by simp, by simp [ha, hb], ?_⟩
  intro i x c hx hc
  by_cases hi : i < xs.length
  · rw [List.getElem?_append_left hi] at hx
    rw [List.getElem?_append_left (by omega)] at hc
    exact ha' i x c hx hc
  · rw [List.getElem?_append_right (by omega)] at hx
    rw [List.getElem?_append_right (by omega), ha] at hc
    exact hb' _ x c hx hc
theorem Cellsof.ile {α : Type} {ρ : Rp α} {G G' : GH} {xs : List α} {cs : List Value} (h : Cellsof ρ G xs cs) (hl : G.ile G') : Cellsof ρ G' xs cs := by
  obtain ⟨a, rfl, ha, ha'⟩ := h
  exact ⟨a, rfl, ha, fun i x c hx hc => ρ.ile hl (ha' i x c hx hc)⟩
theorem Cellsof.len {α : Type} {ρ : Rp α} {G : GH} {xs : List α} {cs : List Value} (h : Cellsof ρ G xs cs) : cs.length = xs.length * ρ.sz := by
  obtain ⟨a, rfl, ha, ha'⟩ := h
  induction xs generalizing a with
  | nil => simp at ha; subst ha; simp
  | cons x xs ih =>
    cases a with
    | nil => simp at ha
    | cons c a =>
      have := ih a (by simpa using ha) (fun i x c hx hc => ha' (i + 1) x c (by simpa using hx) (by simpa using hc))
      have hc := ρ.len (ha' 0 x c (by simp) (by simp))
      simp only [List.flatten_cons, List.length_append, this, hc, List.length_cons, Nat.succ_mul]; omega
theorem Cellsof.all1 {α : Type} {ρ : Rp α} {G : GH} {xs : List α} {cs : List Value} (h : Cellsof ρ G xs cs) : cs.all oneV = true := by
  obtain ⟨a, rfl, ha, ha'⟩ := h
  rw [List.all_flatten, List.all_eq_true]
  intro c hc
  obtain ⟨j, hj⟩ := List.mem_iff_getElem?.1 hc
  have hjl : j < a.length := by
    by_cases hl : j < a.length
    · exact hl
    · rw [List.getElem?_eq_none (by omega)] at hj; cases hj
  exact ρ.one (ha' j xs[j] c (List.getElem?_eq_getElem (by omega)) hj)
theorem flatten_seg {sz : Nat} : ∀ (css : List (List Value)), (∀ c ∈ css, c.length = sz) → ∀ (i : Nat) (c : List Value), css[i]? = some c → (css.flatten.drop (i * sz)).take sz = c
  | [], _, i, x, h => by simp at h
  | y :: ys, hl, 0, x, h => by
    simp at h; subst h
    simp [List.take_append_of_le_length, hl y (by simp)]
  | y :: ys, hl, i + 1, x, h => by
    have hy := hl y (by simp)
    have : (i + 1) * sz = y.length + i * sz := by rw [Nat.succ_mul, hy]; omega
    simp only [List.flatten_cons]
    rw [this, List.drop_append, Nat.add_sub_cancel_left, List.drop_eq_nil_of_le (by omega), List.nil_append]
    exact flatten_seg ys (fun x hx => hl x (by simp [hx])) i x (by simpa using h)
theorem Cellsof.get {α : Type} {ρ : Rp α} {G : GH} {xs : List α} {cs : List Value} (h : Cellsof ρ G xs cs) {i : Nat} {x : α} (hx : xs[i]? = some x) : ρ.R G x ((cs.drop (i * ρ.sz)).take ρ.sz) := by
  obtain ⟨a, rfl, ha, ha'⟩ := h
  have hi : i < xs.length := by
    by_cases hl : i < xs.length
    · exact hl
    · rw [List.getElem?_eq_none (by omega)] at hx; cases hx
  have hall : ∀ c ∈ a, c.length = ρ.sz := by
    intro c hc
    obtain ⟨j, hj⟩ := List.mem_iff_getElem?.1 hc
    have hjl : j < a.length := by
      by_cases hl : j < a.length
      · exact hl
      · rw [List.getElem?_eq_none (by omega)] at hj; cases hj
    exact ρ.len (ha' j xs[j] c (List.getElem?_eq_getElem (by omega)) hj)
  rw [flatten_seg a hall i a[i] (List.getElem?_eq_getElem (by omega))]
  exact ha' i x _ hx (List.getElem?_eq_getElem (by omega))
theorem OV.freeze {α : Type} {ρ : Rp α} {e : TypeId} {G0 G : GH} {v : Value} {xs : List α} {cs : List Value} (h : OV e ρ.sz G0 G v xs.length cs) (hc : Cellsof ρ G xs cs) (hl : G0.le G) : ∃ G', Frz G G' ∧ G0.le G' ∧ RSl ρ G' v xs := by
  rcases h.2 with ⟨rfl, hn⟩ | ⟨b, cap, c, rfl, h0, hb, hsz, hn, htake⟩
  · have : xs = [] := List.eq_nil_of_length_eq_zero hn
    subst this
    exact ⟨G, Frz.refl G, hl, RSl.nil ρ G⟩
  · refine ⟨G.put b (.cells c e (0, 0), false), Frz.put hb, le_put_new hl h0 _, some ⟨b, 0, none⟩, _, cap, rfl, rfl, hn, fun _ => ⟨_, rfl, rfl, fun i x hx => ?_⟩⟩
    have hi : i < xs.length := by
      by_cases hl : i < xs.length
      · exact hl
      · rw [List.getElem?_eq_none (by omega)] at hx; cases hx
    have hmul : i * ρ.sz + ρ.sz ≤ xs.length * ρ.sz := by
      have : (i + 1) * ρ.sz ≤ xs.length * ρ.sz := Nat.mul_le_mul_right _ (by omega)
      rw [Nat.succ_mul] at this; exact this
    have hcap : xs.length * ρ.sz ≤ cap * ρ.sz := Nat.mul_le_mul_right _ hn
    refine ⟨(cs.drop (i * ρ.sz)).take ρ.sz, ?_, ρ.ile (ile_put hb _) (hc.get hx)⟩
    unfold gcellsI
    rw [add_block]
    simp only [put_self, add_off, Nat.zero_add]
    rw [if_pos ⟨by rw [add_spot ⟨b, 0, none⟩ _ rfl]; rfl, by rw [hsz]; omega⟩, ← htake]
    congr 1
    rw [List.drop_take, List.take_take]
    congr 1
    omega
end Go.GL
