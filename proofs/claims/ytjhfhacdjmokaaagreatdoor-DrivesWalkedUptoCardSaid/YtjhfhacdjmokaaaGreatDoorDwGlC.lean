/- A part of a proof: Walk and Length are as specified for all roads and arcs (statement DrivesWalkedUptoCardSaid) -/
import Derived.Shelf.Abstract
import Derived.Test.YtjhfhacdjmokaaaGreatDoorDwGlB
set_option linter.unusedSimpArgs false
set_option linter.unusedVariables false
set_option linter.unusedSectionVars false
namespace Go.GL
open Go Go.RowKit
variable {P : Program}
theorem gwp_mono {α : Type} : ∀ (s : Sem α) (G : GH) (K K' : α → GH → Prop), gwp P s G K → (∀ a G', K a G' → K' a G') → gwp P s G K' := by
  intro s
  induction s with
  | pure a => intro G K K' h hk; exact hk _ _ h
  | load m a k ih => intro G K K' h hk; obtain ⟨v, hv, h⟩ := h; exact ⟨v, hv, ih _ _ _ _ h hk⟩
  | store m a v k ih => intro G K K' h hk; obtain ⟨h1, h2, c, e, h3, h4, h5, h⟩ := h; exact ⟨h1, h2, c, e, h3, h4, h5, ih _ _ _ h hk⟩
  | new o k ih => intro G K K' h hk r hr; exact ih _ _ _ _ (h r hr) hk
  | shape r k ih => intro G K K' h hk; obtain ⟨c, e, fr, t, hG, h⟩ := h; exact ⟨c, e, fr, t, hG, ih _ _ _ _ h hk⟩
  | freeze a n k ih => intro G K K' h hk; exact h
  | frozen a k ih => intro G K K' h hk; obtain ⟨c, e, fr, t, hG, h⟩ := h; exact ⟨c, e, fr, t, hG, ih _ _ _ _ h hk⟩
  | getObj r k ih => intro G K K' h hk; obtain ⟨o, t, hG, hn, h⟩ := h; exact ⟨o, t, hG, hn, ih _ _ _ _ h hk⟩
  | setObj r o k ih => intro G K K' h hk; obtain ⟨o', hG, hn, h⟩ := h; exact ⟨o', hG, hn, ih _ _ _ h hk⟩
  | choose q k ih => intro G K K' h hk t; exact ih _ _ _ _ (h t) hk
  | sys c k ih => intro G K K' h hk; exact h
  | program k ih => intro G K K' h hk; exact ih _ _ _ _ h hk
  | mark m k ih => intro G K K' h hk; exact ih _ _ _ h hk
  | halt h0 => intro G K K' h hk; exact h
theorem gwp_bind {α β : Type} (s : Sem α) (k : α → Sem β) : ∀ (G : GH) (K : β → GH → Prop), gwp P (s >>= k) G K = gwp P s G (fun a G' => gwp P (k a) G' K) := by
  show ∀ (G : GH) (K : β → GH → Prop), gwp P (s.bind k) G K = _
  induction s with
  | pure a => intro G K; rfl
  | load m a k' ih => intro G K; simp only [Sem.bind, gwp, ih]
  | store m a v k' ih => intro G K; simp only [Sem.bind, gwp, ih]
  | new o k' ih => intro G K; simp only [Sem.bind, gwp, ih]
  | shape r k' ih => intro G K; simp only [Sem.bind, gwp, ih]
  | freeze a n k' ih => intro G K; simp only [Sem.bind, gwp]
  | frozen a k' ih => intro G K; simp only [Sem.bind, gwp, ih]
  | getObj r k' ih => intro G K; simp only [Sem.bind, gwp, ih]
  | setObj r o k' ih => intro G K; simp only [Sem.bind, gwp, ih]
  | choose q k' ih => intro G K; simp only [Sem.bind, gwp, ih]
  | sys c k' ih => intro G K; simp only [Sem.bind, gwp]
  | program k' ih => intro G K; simp only [Sem.bind, gwp, ih]
  | mark m k' ih => intro G K; simp only [Sem.bind, gwp, ih]
  | halt h0 => intro G K; simp only [Sem.bind, gwp]
theorem gwp_pure {α : Type} (a : α) (G : GH) (K : α → GH → Prop) : gwp P (pure a) G K = K a G := rfl
theorem gwp_program (G : GH) (K : Program → GH → Prop) : gwp P program G K = K P G := rfl
def tySz (P : Program) (t : TypeId) : Nat := ((P.info? t).map (·.size)).getD 0
def tyBytes (P : Program) (t : TypeId) : Nat := ((P.info? t).map (·.bytes)).getD 0
def tyZ (P : Program) (t : TypeId) : Option Value := (P.info? t).bind (·.zero)
def tyD (P : Program) (t : TypeId) : Option TypeDesc := P.underlying t
def isAggD : TypeDesc → Bool
  | .struct _ | .array _ _ => true
  | _ => false
theorem gwp_underlying (t : TypeId) (G : GH) (K : TypeDesc → GH → Prop) {d : TypeDesc} (h : tyD P t = some d) : gwp P (underlying t) G K = K d G := by
  unfold underlying; rw [gwp_bind, gwp_program]; unfold tyD at h; rw [h]; rfl
theorem gwp_isAgg (t : TypeId) (G : GH) (K : Bool → GH → Prop) {d : TypeDesc} (h : tyD P t = some d) : gwp P (isAgg t) G K = K (isAggD d) G := by
  unfold isAgg; rw [gwp_bind, gwp_underlying _ _ _ h]; cases d <;> rfl
theorem gwp_typeInfo (t : TypeId) (G : GH) (K : TypeInfo → GH → Prop) {i : TypeInfo} (h : P.info? t = some i) : gwp P (typeInfo t) G K = K i G := by
  unfold typeInfo; rw [gwp_bind, gwp_program, h]; rfl
theorem info_some {t : TypeId} (h : 0 < tySz P t) : ∃ i, P.info? t = some i ∧ i.size = tySz P t := by
  unfold tySz at *
  cases hi : P.info? t with
  | none => simp [hi] at h
  | some i => exact ⟨i, rfl, by simp⟩
theorem gwp_sizeOf (t : TypeId) (G : GH) (K : Nat → GH → Prop) (h : 0 < tySz P t) : gwp P (sizeOf t) G K = K (tySz P t) G := by
  obtain ⟨i, hi, hs⟩ := info_some h
  unfold sizeOf; rw [gwp_bind, gwp_typeInfo _ _ _ hi, hs]; rfl
theorem gwp_zeroValue (t : TypeId) (G : GH) (K : Value → GH → Prop) {z : Value} (h : tyZ P t = some z) : gwp P (zeroValue t) G K = K z G := by
  unfold tyZ at h
  cases hi : P.info? t with
  | none => simp [hi] at h
  | some i =>
    simp only [hi, Option.bind_some] at h
    unfold zeroValue; rw [gwp_bind, gwp_typeInfo _ _ _ hi, h]; rfl
def gcells (G : GH) (a : Addr) (n : Nat) : Option (List Value) :=
  match G a.block with
  | some (.cells c _ _, _) => if a.spot.isNone ∧ a.off + n ≤ c.size then some ((c.toList.drop a.off).take n) else none
  | _ => none
theorem add_block (a : Addr) (i : Nat) : (a.add i).block = a.block := by unfold Addr.add; split <;> rfl
theorem add_spot (a : Addr) (i : Nat) (h : a.spot = none) : (a.add i).spot = none := by unfold Addr.add; split <;> simp [h]
theorem add_off (a : Addr) (i : Nat) : (a.add i).off = a.off + i := by
  unfold Addr.add; split
  · rename_i h; simp [h]
  · rfl
theorem gwp_loadCellsFrom {G : GH} {a : Addr} {cs : List Value} {n : Nat} (h : gcells G a n = some cs) (K : Array Value → GH → Prop) :
    ∀ (m i : Nat) (acc : Array Value), i + m = n → acc.toList = cs.take i → K cs.toArray G → gwp P (loadCellsFrom a i m acc) G K := by
  unfold gcells at h
  split at h
  case h_2 => cases h
  rename_i c e fr t hG
  split at h
  case isFalse => cases h
  rename_i hc
  have hsp : a.spot = none := by have := hc.1; cases hs : a.spot <;> simp_all
  have hlen : cs.length = n := by cases h; simp; omega
  intro m
  induction m with
  | zero =>
    intro i acc hi hacc hk
    have : acc = cs.toArray := by rw [← Array.toList_inj, hacc, List.take_of_length_le (by omega)]
    rw [loadCellsFrom]; subst this; exact hk
  | succ m ih =>
    intro i acc hi hacc hk
    rw [loadCellsFrom, gwp_bind]
    have hlt : a.off + i < c.size := by omega
    refine ⟨c[a.off + i], ?_, ?_⟩
    · unfold gcell; rw [add_block, hG]; simp [add_spot _ _ hsp, add_off, hlt]
    · refine ih (i + 1) _ (by omega) ?_ hk
      have hci : cs[i]? = some c[a.off + i] := by cases h; simp [show i < n by omega]
      simp only [Array.toList_push, hacc]
      rw [List.take_add_one, hci]; rfl
theorem gwp_loadCells {G : GH} {a : Addr} {cs : List Value} {n : Nat} (h : gcells G a n = some cs) {K : Array Value → GH → Prop} (hk : K cs.toArray G) : gwp P (loadCells a n) G K :=
  gwp_loadCellsFrom h K n 0 #[] (by omega) (by simp) hk
def setCells (c : Array Value) (off : Nat) : List Value → Array Value
  | [] => c
  | v :: vs => setCells (c.setIfInBounds off v) (off + 1) vs
theorem setCells_size (vs : List Value) : ∀ (c : Array Value) (off : Nat), (setCells c off vs).size = c.size := by
  induction vs with
  | nil => intro c off; rfl
  | cons v vs ih => intro c off; simp [setCells, ih]
def oneV : Value → Bool
  | .agg _ | .tuple _ => false
  | _ => true
theorem put_put (G : GH) (b : Nat) (o o' : Obj × Bool) : (G.put b o).put b o' = G.put b o' := by
  funext c; unfold GH.put; split <;> rfl
theorem gwp_storeCells {a : Addr} (hsp : a.spot = none) (vs : List Value) (hone : vs.all oneV = true) {e : TypeId} {K : Unit → GH → Prop} : ∀ (i : Nat) (G : GH) (c : Array Value),
    G a.block = some (.cells c e (0, 0), true) → a.off + i + vs.length ≤ c.size → K () (G.put a.block (.cells (setCells c (a.off + i) vs) e (0, 0), true)) → gwp P (storeCells a vs i) G K := by
  induction vs with
  | nil =>
    intro i G c hG hl hk
    rw [storeCells]
    have : G.put a.block (.cells (setCells c (a.off + i) []) e (0, 0), true) = G := by
      funext d; unfold GH.put; split
      · rename_i hd; rw [hd, hG]; rfl
      · rfl
    rw [this] at hk
    exact hk
  | cons v vs ih =>
    intro i G c hG hl hk
    simp only [List.all_cons, Bool.and_eq_true] at hone
    simp only [List.length_cons] at hl
    rw [storeCells, gwp_bind]
    refine ⟨?_, ?_, c, e, ?_, add_spot _ _ hsp, ?_, ?_⟩
    · intro cs e'; subst e'; simp [oneV] at hone
    · intro cs e'; subst e'; simp [oneV] at hone
    · rw [add_block]; exact hG
    · rw [add_off]; omega
    · rw [add_block, add_off]
      refine ih hone.2 (i + 1) _ (c.setIfInBounds (a.off + i) v) ?_ (by simp; omega) ?_
      · unfold GH.put; simp
      · rw [put_put]; exact hk
end Go.GL
