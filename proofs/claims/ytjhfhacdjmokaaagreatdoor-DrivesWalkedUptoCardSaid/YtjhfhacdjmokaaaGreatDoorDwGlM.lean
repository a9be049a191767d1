/- A part of a proof: Walk and Length are as specified for all roads and arcs (statement DrivesWalkedUptoCardSaid) -/
import Derived.Test.YtjhfhacdjmokaaaGreatDoorDwGlC
set_option linter.unusedSimpArgs false
set_option linter.unusedVariables false
set_option linter.unusedSectionVars false
namespace Go.GL
open Go Go.RowKit
variable {P : Program}
def calm {α : Type} (P : Program) : Sem α → Option α
  | .pure a => some a
  | .program k => calm P (k P)
  | .mark _ k => calm P k
  | _ => none
theorem gwp_calm {α : Type} {a : α} : ∀ (s : Sem α), calm P s = some a → ∀ (G : GH) (K : α → GH → Prop), gwp P s G K = K a G := by
  intro s
  induction s with
  | pure b => intro h G K; simp only [calm, Option.some.injEq] at h; subst h; rfl
  | program k ih => intro h G K; exact ih P h G K
  | mark m k ih => intro h G K; exact ih h G K
  | _ => intro h; simp [calm] at h
theorem calm_bind {α β : Type} (s : Sem α) (k : α → Sem β) : calm P (s >>= k) = (calm P s).bind fun a => calm P (k a) := by
  show calm P (Sem.bind s k) = _
  induction s with
  | pure b => rfl
  | program k' ih => exact ih P
  | mark m k' ih => exact ih
  | _ => rfl
theorem calm_pure {α : Type} (a : α) : calm P (pure a) = some a := rfl
theorem calm_program : calm P program = some P := rfl
theorem calm_underlying {t : TypeId} {d : TypeDesc} (h : tyD P t = some d) : calm P (underlying t) = some d := by
  unfold tyD at h
  unfold underlying
  rw [calm_bind, calm_program]
  simp only [Option.bind_some, h]
  rfl
open Classical in
noncomputable def mfind (k : Value) : List MapEntry → Nat → Option (Nat × Value)
  | [], _ => none
  | e :: es, i => if k = e.key then some (i, e.val) else mfind k es (i + 1)
open Classical in
structure KeyFit (P : Program) (kt : TypeId) (k : Value) (es : List MapEntry) : Prop where
  check : ∀ em, calm P (Instr.checkKey em 10000 kt k) = some ()
  bits : Instr.sameBits 10000 k k = true
  self : calm P (Op.equal kt k k) = some true
  eq : ∀ e ∈ es, calm P (Op.equal kt k e.key) = some (decide (k = e.key))
open Classical in
theorem KeyFit.push {kt : TypeId} {k : Value} {es : List MapEntry} (h : KeyFit P kt k es) (v : Value) (n : Nat) : KeyFit P kt k (es ++ [⟨k, v, n⟩]) :=
  ⟨h.check, h.bits, h.self, fun e he => by
    rcases List.mem_append.1 he with he | he
    · exact h.eq e he
    · simp only [List.mem_singleton] at he; subst he; simpa using h.self⟩
theorem bytes_beq (a b : ByteArray) : (a == b) = true ↔ a = b := by
  obtain ⟨a⟩ := a; obtain ⟨b⟩ := b
  show (a == b) = true ↔ _
  simp
open Classical in
theorem sameNow_eq {d : TypeDesc} {a b : Value} {t : Bool} (h : Instr.sameNow d a b = some t) : t = decide (a = b) := by
  unfold Instr.sameNow at h
  split at h
  · rename_i k a k' b
    split at h
    · rename_i hk
      subst hk
      simp only [Option.some.injEq] at h
      rw [← h, Bool.eq_iff_iff]
      simp
    · cases h
  · rename_i a b
    simp only [Option.some.injEq] at h
    rw [← h, Bool.eq_iff_iff, bytes_beq]; simp
  · rename_i a b
    simp only [Option.some.injEq] at h
    rw [← h, Bool.eq_iff_iff]; simp
  · cases h
open Classical in
theorem findNow_eq {d : TypeDesc} {k : Value} : ∀ (es : List MapEntry) (i : Nat) (r : Option (Nat × Value)), Instr.findNow d k es i = some r → r = mfind k es i
  | [], i, r, h => by simpa [Instr.findNow, mfind] using h.symm
  | e :: es, i, r, h => by
    unfold Instr.findNow at h
    unfold mfind
    split at h
    · rename_i hs
      have := sameNow_eq hs
      have hk : k = e.key := by simpa using this.symm
      rw [if_pos hk]; simpa using h.symm
    · rename_i hs
      have := sameNow_eq hs
      have hk : k ≠ e.key := by simpa using this.symm
      rw [if_neg hk]; exact findNow_eq es (i + 1) r h
    · cases h
open Classical in
theorem calm_findAsking {kt : TypeId} {k : Value} : ∀ (es : List MapEntry) (i : Nat), (∀ e ∈ es, calm P (Op.equal kt k e.key) = some (decide (k = e.key))) → calm P (Instr.findAsking kt k es i) = some (mfind k es i)
  | [], i, _ => rfl
  | e :: es, i, h => by
    unfold Instr.findAsking mfind
    rw [calm_bind, h e (by simp)]
    simp only [Option.bind_some, decide_eq_true_eq]
    split
    · rfl
    · exact calm_findAsking es (i + 1) fun x hx => h x (by simp [hx])
open Classical in
theorem calm_findKey {kt : TypeId} {d : TypeDesc} {k : Value} {es : List MapEntry} (hd : tyD P kt = some d) (h : ∀ e ∈ es, calm P (Op.equal kt k e.key) = some (decide (k = e.key))) : calm P (Instr.findKey kt k es) = some (mfind k es 0) := by
  unfold Instr.findKey
  rw [calm_bind, calm_underlying hd]
  simp only [Option.bind_some]
  split
  · rename_i r hr
    rw [findNow_eq es 0 r hr]; rfl
  · exact calm_findAsking es 0 h
theorem calm_stays {k : Value} (h : Instr.sameBits 10000 k k = true) : calm P (Instr.keyThatStays k k) = some k := by
  unfold Instr.keyThatStays; rw [if_pos h]; rfl
open Classical in
theorem mfind_at {k v : Value} : ∀ (es : List MapEntry) (i j : Nat), mfind k es i = some (j, v) → i ≤ j ∧ ∃ e, es[j - i]? = some e ∧ e.key = k ∧ e.val = v
  | [], i, j, h => by cases h
  | e :: es, i, j, h => by
    unfold mfind at h
    split at h
    · rename_i hk; cases h; exact ⟨Nat.le_refl _, e, by simp, hk.symm, rfl⟩
    · obtain ⟨h1, e', h2, h3⟩ := mfind_at es (i + 1) j h
      refine ⟨by omega, e', ?_, h3⟩
      have : j - i = (j - (i + 1)) + 1 := by omega
      rw [this]; simpa using h2
open Classical in
theorem mfind_push {k v z : Value} {n : Nat} : ∀ (es : List MapEntry) (i : Nat), mfind k es i = none → mfind k (es ++ [⟨k, z, n⟩]) i = some (i + es.length, z)
  | [], i, h => by simp [mfind]
  | e :: es, i, h => by
    unfold mfind at h
    split at h
    · cases h
    · rename_i hk
      rw [List.cons_append]
      unfold mfind
      rw [if_neg hk, mfind_push (v := v) es (i + 1) h]
      simp; omega
open Classical in
noncomputable def pvLook (P : Program) (T : TypeId) (m k : Value) (ok : Bool) (G : GH) : Option Value :=
  match tyD P T, m with
  | some (.map kt e), .map (some r) =>
    match G r, tyD P kt, tyZ P e with
    | some (.map es _, _), some _, some z => if KeyFit P kt k es.toList then some (match mfind k es.toList 0 with | some (_, v) => if ok then .tuple #[v, .bool true] else v | none => if ok then .tuple #[z, .bool false] else z) else none
    | _, _, _ => none
  | _, _ => none
open Classical in
theorem gwp_lookup {T : TypeId} {m k : Value} {ok : Bool} {G : GH} {v : Value} (h : pvLook P T m k ok G = some v) {K : Value → GH → Prop} (hk : K v G) : gwp P (Instr.lookup T m k ok) G K := by
  unfold pvLook at h
  split at h
  case h_2 => cases h
  rename_i kt e r hT
  split at h
  case h_2 => cases h
  rename_i es clock t d z hG hd hz
  split at h
  case isFalse => cases h
  rename_i hf
  unfold Instr.lookup
  rw [gwp_bind, gwp_underlying _ _ _ hT]
  dsimp only
  rw [gwp_bind]
  have hobj : ∀ K' : Obj → GH → Prop, K' (.map es clock) G → gwp P (getObj r) G K' := fun K' hk' => ⟨_, _, hG, by simp, hk'⟩
  show gwp P (getObj r >>= fun o => _) G _
  rw [gwp_bind]
  refine hobj _ ?_
  show gwp P (Instr.checkKey es.isEmpty 10000 kt k >>= fun _ => _) G K
  rw [gwp_bind, gwp_calm _ (hf.check _), gwp_bind, gwp_calm _ (calm_findKey hd hf.eq)]
  cases hm : mfind k es.toList 0 with
  | some p =>
    simp only [hm, Option.some.injEq] at h
    subst h; cases ok <;> exact hk
  | none =>
    simp only [hm, Option.some.injEq] at h
    dsimp only
    rw [gwp_bind, gwp_zeroValue _ _ _ hz]; subst h; cases ok <;> exact hk
open Classical in
def vment (P : Program) (T : TypeId) (m k : Value) (G : GH) (K : Value → GH → Prop) : Prop :=
  match tyD P T, m with
  | some (.map kt e), .map (some r) =>
    match G r, tyD P kt, tyZ P e with
    | some (.map es clock, true), some _, some z => KeyFit P kt k es.toList ∧
      (match mfind k es.toList 0 with
      | some (i, v) => K (.tuple #[v, goInt (((es[i]?).map (·.born)).getD 0)]) (G.put r (.map es clock, true))
      | none => K (.tuple #[z, goInt clock]) (G.put r (.map (es.push ⟨k, z, clock⟩) (clock + 1), true)))
    | _, _, _ => False
  | _, _ => False
theorem modify_key {es : Array MapEntry} {i : Nat} {e : MapEntry} (h : es[i]? = some e) (k : Value) (hk : e.key = k) : (es.modify i fun e => { e with key := k }) = es := by
  apply Array.ext_getElem?
  intro j
  rw [Array.getElem?_modify]
  split
  · rename_i hj; subst hj; rw [h]; subst hk; rfl
  · rfl
open Classical in
theorem gwp_mapEntry {T : TypeId} {m k : Value} {G : GH} {K : Value → GH → Prop} (h : vment P T m k G K) : gwp P (Instr.mapEntry T m k) G K := by
  unfold vment at h
  split at h
  case h_2 => exact h.elim
  rename_i kt e r hT
  split at h
  case h_2 => exact h.elim
  rename_i es clock d z hG hd hz
  obtain ⟨hf, h⟩ := h
  unfold Instr.mapEntry
  rw [gwp_bind, gwp_underlying _ _ _ hT]
  dsimp only
  rw [gwp_bind]
  refine ⟨_, _, hG, by simp, ?_⟩
  show gwp P (Instr.checkKey false 10000 kt k >>= fun _ => _) G K
  rw [gwp_bind, gwp_calm _ (hf.check _), gwp_bind, gwp_calm _ (calm_findKey hd hf.eq)]
  cases hm : mfind k es.toList 0 with
  | some p =>
    obtain ⟨i, v⟩ := p
    simp only [hm] at h
    obtain ⟨_, e', he, hkey, hval⟩ := mfind_at es.toList 0 i hm
    simp only [Nat.sub_zero, Array.getElem?_toList] at he
    dsimp only
    rw [he, Option.map_some, Option.getD_some, hkey, gwp_bind, gwp_calm _ (calm_stays hf.bits), modify_key he k hkey, gwp_bind]
    rw [he] at h
    exact ⟨_, hG, by simp, h⟩
  | none =>
    simp only [hm] at h
    dsimp only
    rw [gwp_bind, gwp_zeroValue _ _ _ hz, gwp_bind]
    exact ⟨_, hG, by simp, h⟩
def ventry (m s x : Value) (G : GH) (K : GH → Prop) : Prop :=
  match m, s with
  | .map (some r), .int _ b =>
    match G r with
    | some (.map es clock, true) => match es.findIdx? (fun e => (e.born : Int) == b) with
      | some i => K (G.put r (.map (es.modify i fun e => { e with val := x }) clock, true))
      | none => False
    | _ => False
  | _, _ => False
theorem gwp_entryStore {T : TypeId} {m s x : Value} {G : GH} {K : Unit → GH → Prop} (h : ventry m s x G (K ())) : gwp P (Instr.entryStore T m s x) G K := by
  unfold ventry at h
  split at h
  case h_2 => exact h.elim
  rename_i r kd b
  split at h
  case h_2 => exact h.elim
  rename_i es clock hG
  split at h
  case h_2 => exact h.elim
  rename_i i hi
  unfold Instr.entryStore
  dsimp only
  rw [gwp_bind]
  refine ⟨_, _, hG, by simp, ?_⟩
  show gwp P (asInt (.int kd b) >>= fun born => _) G K
  rw [gwp_bind]
  show gwp P (match es.findIdx? (fun e => (e.born : Int) == b) with | some i => _ | none => _) G K
  rw [hi]
  exact ⟨_, hG, by simp, h⟩
open Classical in
def vmupd (P : Program) (T : TypeId) (m k x : Value) (G : GH) (K : GH → Prop) : Prop :=
  match tyD P T, m with
  | some (.map kt _), .map (some r) =>
    match G r, tyD P kt with
    | some (.map es clock, true), some _ => KeyFit P kt k es.toList ∧
      (match mfind k es.toList 0 with
      | some (i, _) => K (G.put r (.map (es.modify i fun e => { e with key := k, val := x }) clock, true))
      | none => K (G.put r (.map (es.push ⟨k, x, clock⟩) (clock + 1), true)))
    | _, _ => False
  | _, _ => False
open Classical in
theorem gwp_mapUpdate {T : TypeId} {m k x : Value} {G : GH} {K : Unit → GH → Prop} (h : vmupd P T m k x G (K ())) : gwp P (Instr.mapUpdate T m k x) G K := by
  unfold vmupd at h
  split at h
  case h_2 => exact h.elim
  rename_i kt e r hT
  split at h
  case h_2 => exact h.elim
  rename_i es clock d hG hd
  obtain ⟨hf, h⟩ := h
  unfold Instr.mapUpdate
  rw [gwp_bind, gwp_underlying _ _ _ hT]
  dsimp only
  rw [gwp_bind]
  refine ⟨_, _, hG, by simp, ?_⟩
  show gwp P (Instr.checkKey false 10000 kt k >>= fun _ => _) G K
  rw [gwp_bind, gwp_calm _ (hf.check _), gwp_bind, gwp_calm _ (calm_findKey hd hf.eq)]
  cases hm : mfind k es.toList 0 with
  | some p =>
    obtain ⟨i, v⟩ := p
    simp only [hm] at h
    obtain ⟨_, e', he, hkey, hval⟩ := mfind_at es.toList 0 i hm
    simp only [Nat.sub_zero, Array.getElem?_toList] at he
    dsimp only
    rw [he, Option.map_some, Option.getD_some, hkey, gwp_bind, gwp_calm _ (calm_stays hf.bits)]
    exact ⟨_, hG, by simp, h⟩
  | none =>
    simp only [hm] at h
    exact ⟨_, hG, by simp, h⟩
open Classical in
theorem look_ment {T : TypeId} {m k : Value} {G : GH} {v : Value} {K : Value → GH → Prop} (h : pvLook P T m k false G = some v) (hm : vment P T m k G K) :
    vment P T m k G (fun u G' => pvLook P T m k false G' = some v ∧ K u G') := by
  unfold vment at hm ⊢
  unfold pvLook at h
  split at hm
  case h_2 => exact hm.elim
  rename_i kt e r hT
  split at hm
  case h_2 => exact hm.elim
  rename_i es clock d z hG hd hz
  obtain ⟨hf, hm⟩ := hm
  refine ⟨hf, ?_⟩
  simp only [hT, hG, hd, hz, hf, if_true, Option.some.injEq, Bool.false_eq_true, if_false] at h
  cases hmf : mfind k es.toList 0 with
  | some p =>
    simp only [hmf] at h hm ⊢
    refine ⟨?_, hm⟩
    unfold pvLook GH.put
    simp only [hT, hd, hz, hf, if_true, hmf, Bool.false_eq_true, if_false, h]
  | none =>
    simp only [hmf] at h hm ⊢
    refine ⟨?_, hm⟩
    unfold pvLook GH.put
    simp only [hT, hd, hz, if_true, Array.toList_push, mfind_push (v := z) es.toList 0 hmf, Bool.false_eq_true, if_false, h]
    rw [if_pos (hf.push _ _)]
theorem vment_mono {T : TypeId} {m k : Value} {G : GH} {K K' : Value → GH → Prop} (h : vment P T m k G K) (hk : ∀ v G', K v G' → K' v G') : vment P T m k G K' := by
  unfold vment at *
  split at h
  case h_2 => exact h.elim
  split at h
  case h_2 => exact h.elim
  refine ⟨h.1, ?_⟩
  have h2 := h.2
  split at h2
  · exact hk _ _ h2
  · exact hk _ _ h2
theorem ventry_mono {m b x : Value} {G : GH} {K K' : GH → Prop} (h : ventry m b x G K) (hk : ∀ G', K G' → K' G') : ventry m b x G K' := by
  unfold ventry at *
  split at h
  case h_2 => exact h.elim
  split at h
  case h_2 => exact h.elim
  split at h
  · exact hk _ h
  · exact h.elim
theorem vmupd_mono {T : TypeId} {m k x : Value} {G : GH} {K K' : GH → Prop} (h : vmupd P T m k x G K) (hk : ∀ G', K G' → K' G') : vmupd P T m k x G K' := by
  unfold vmupd at *
  split at h
  case h_2 => exact h.elim
  split at h
  case h_2 => exact h.elim
  refine ⟨h.1, ?_⟩
  have h2 := h.2
  split at h2
  · exact hk _ h2
  · exact hk _ h2
theorem pvLook_le {T : TypeId} {m k : Value} {ok : Bool} {G G' : GH} (h : G.le G') {v : Value} (hv : pvLook P T m k ok G = some v) : pvLook P T m k ok G' = some v := by
  unfold pvLook at *
  split at hv
  case h_2 => cases hv
  rename_i kt e r hT
  split at hv
  case h_2 => cases hv
  rename_i es clock t d z hG hd hz
  simp only [hT, h _ _ hG, hd, hz]
  exact hv
end Go.GL
