/- A part of a proof: Walk and Length are as specified for all roads and arcs (statement DrivesWalkedUptoCardSaid) -/
import Derived.OwnWalk
import Derived.Test.YtjhfhacdjmokaaaGreatDoorDwGlD
set_option linter.unusedSimpArgs false
set_option linter.unusedVariables false
set_option linter.unusedSectionVars false
namespace Go.GL
open Go Go.RowKit
def gyield (ops : Array Oper) (f : Fr) (j : Nat) : Option Bool :=
  match (ops[j]?).bind (·.dst) with
  | some d => match f d with | .bool b => some b | _ => none
  | none => none
def gops (P : Program) (ops : Array Oper) (K : Fr → GH → Prop) : List Oper → Fr → GH → Prop
  | [], f, G => K f G
  | o :: rest, f, G =>
    if Region.wanted o (gyield ops f) then vop P o f G (fun v G' => gops P ops K rest (put f o.dst v) G')
    else gops P ops K rest (put f o.dst undef) G
def gidx (P : Program) (ops : Array Oper) (K : Fr → GH → Prop) : List Nat → Fr → GH → Prop
  | [], f, G => K f G
  | i :: rest, f, G =>
    match ops[i]? with
    | none => gidx P ops K rest f G
    | some o =>
      if Region.wanted o (gyield ops f) then vop P o f G (fun v G' => gidx P ops K rest (put f o.dst v) G')
      else gidx P ops K rest (put f o.dst undef) G
def awp (P : Program) : Code → (Exit → Fr → GH → Prop) → Fr → GH → Prop
  | .skip, Q, f, G => Q .normal f G
  | .region _ ops false, Q, f, G => gops P ops (Q .normal) ops.toList f G
  | .region _ ops true, Q, f, G => ∀ t, gidx P ops (Q .normal) (Region.schedule (P.follows .mixedOrders) ops t) f G
  | .seq a b, Q, f, G => awp P a (fun e f' G' => match e with | .normal => awp P b Q f' G' | e => Q e f' G') f G
  | .cond c a b, Q, f, G => ∃ t, ev f c = .bool t ∧ (t = true → awp P a Q f G) ∧ (t = false → awp P b Q f G)
  | .block id c, Q, f, G => awp P c (fun e f' G' => match e with | .exit j => if j = id then Q .normal f' G' else Q (.exit j) f' G' | e => Q e f' G') f G
  | .loop c, Q, f, G => ∃ (I : Nat → Fr → GH → Prop) (m : Nat), I m f G ∧
      ∀ k f G, I k f G → awp P c (fun e f' G' => match e with | .normal => ∃ j, j < k ∧ I j f' G' | e => Q e f' G') f G
  | .exit id, Q, f, G => Q (.exit id) f G
  | .ret, Q, f, G => Q .ret f G
  | _, _, _, _ => False
def dstsOk (n : Nat) (ops : Array Oper) : Bool := ops.all fun o => match o.dst with | some d => decide (d < n) | none => true
def codeOk (n : Nat) : Code → Bool
  | .region _ ops _ => dstsOk n ops
  | .seq a b => codeOk n a && codeOk n b
  | .cond _ a b => codeOk n a && codeOk n b
  | .block _ c | .loop c => codeOk n c
  | _ => true
theorem dstsOk_at {n : Nat} {ops : Array Oper} (h : dstsOk n ops = true) {o : Oper} (ho : o ∈ ops) : ∀ k, o.dst = some k → k < n := by
  intro k hk
  unfold dstsOk at h
  rw [Array.all_eq_true_iff_forall_mem] at h
  have := h o ho
  simp only [hk] at this
  simpa using this
section
variable {P : Program} {w0 : World}
def QQ (n : Nat) (w0 : World) (Q : Exit → Fr → GH → Prop) : Exit → Act → World → Prop := fun e a w => ∃ f G, Sim n f a ∧ Holds w0 G w ∧ Q e f G ∧ e ≠ .outgrown
theorem oper_sound {o : Oper} {f : Fr} {G : GH} {K : Value → GH → Prop} {n : Nat} {a : Act} {w : World} {next : Act → World → Prop} {Q : Exit → Act → World → Prop}
    (h : vop P o f G K) (hs : Sim n f a) (hw : Holds w0 G w) (hd : ∀ k, o.dst = some k → k < n)
    (hn : ∀ v G' w', K v G' → Holds w0 G' w' → next (a.put o.dst v) w') : o.wp P a w next Q := by
  replace h := vop_sound _ _ _ _ h
  unfold gop at h
  obtain ⟨nx, w', G', hr, hh, hk⟩ := gwp_sound P w0 _ _ _ w h hw
  unfold Oper.wp
  rw [hs.eval, hr]
  cases nx with
  | value v => exact hn _ _ _ hk hh
  | skip => exact hn _ _ _ hk hh
  | enter f args =>
    simp only [gnext] at hk
    rw [Oper.upon_enter]
    refine (hk w0 w' hh).mono ?_
    rintro e w2 ⟨v, G2, rfl, hh2, hk2⟩
    exact hn _ _ _ hk2 hh2
  | _ => exact hk.elim
theorem yielded_sim {ops : Array Oper} {n : Nat} {f : Fr} {a : Act} (hs : Sim n f a) : yielded ops a.tmps = gyield ops f := by
  funext j
  unfold yielded gyield
  cases hj : (ops[j]?).bind (·.dst) with
  | none => rfl
  | some d =>
    have := hs.val d
    simp only [Option.bind_some]
    rw [← this]
    simp only [Array.getD_eq_getD_getElem?]
    cases ht : a.tmps[d]? with
    | none => rfl
    | some v => simp only [Option.getD_some]; cases v <;> rfl
theorem idx_sound {ops : Array Oper} {n : Nat} (hok : dstsOk n ops = true) {K : Fr → GH → Prop} {Q : Exit → Act → World → Prop}
    (hQ : ∀ f G a w, K f G → Sim n f a → Holds w0 G w → Q .normal a w) :
    ∀ (l : List Nat) (f : Fr) (G : GH) (a : Act) (w : World), gidx P ops K l f G → Sim n f a → Holds w0 G w → wpOps P ops Q l a w := by
  intro l
  induction l with
  | nil => intro f G a w h hs hw; exact hQ _ _ _ _ h hs hw
  | cons i rest ih =>
    intro f G a w h hs hw
    simp only [gidx] at h
    simp only [wpOps]
    cases ho : ops[i]? with
    | none => simp only [ho] at h; exact ih _ _ _ _ h hs hw
    | some o =>
      simp only [ho] at h
      have hd := dstsOk_at hok (Array.mem_of_getElem? ho)
      simp only [yielded_sim hs]
      split at h
      · rename_i hwant
        simp only [hwant, if_true]
        exact .inl (oper_sound h hs hw hd fun v G' w' hk hh => ih _ _ _ _ hk (hs.put _ _ hd) hh)
      · rename_i hwant
        simp only [hwant]
        exact ih _ _ _ _ h (hs.put _ _ hd) hw
theorem list_sound {ops : Array Oper} {n : Nat} (hok : dstsOk n ops = true) {K : Fr → GH → Prop} {Q : Exit → Act → World → Prop}
    (hQ : ∀ f G a w, K f G → Sim n f a → Holds w0 G w → Q .normal a w) :
    ∀ (l : List Oper), (∀ o ∈ l, o ∈ ops) → ∀ (f : Fr) (G : GH) (a : Act) (w : World), gops P ops K l f G → Sim n f a → Holds w0 G w → wpList P ops Q l a w := by
  intro l
  induction l with
  | nil => intro _ f G a w h hs hw; exact hQ _ _ _ _ h hs hw
  | cons o rest ih =>
    intro hmem f G a w h hs hw
    simp only [gops] at h
    simp only [wpList]
    have hd := dstsOk_at hok (hmem o (by simp))
    simp only [yielded_sim hs]
    split at h
    · rename_i hwant
      simp only [hwant, if_true]
      exact .inl (oper_sound h hs hw hd fun v G' w' hk hh => ih (fun o ho => hmem o (by simp [ho])) _ _ _ _ hk (hs.put _ _ hd) hh)
    · rename_i hwant
      simp only [hwant]
      exact ih (fun o ho => hmem o (by simp [ho])) _ _ _ _ h (hs.put _ _ hd) hw
theorem awp_sound {n : Nat} : ∀ (c : Code), codeOk n c = true → ∀ (Q : Exit → Fr → GH → Prop), (∀ f G, ¬ Q .outgrown f G) → ∀ (f : Fr) (G : GH) (a : Act) (w : World), awp P c Q f G → Sim n f a → Holds w0 G w →
    c.wp P (QQ n w0 Q) a w := by
  intro c
  induction c with
  | skip => intro _ Q hQ f G a w h hs hw; exact wp_skip ⟨f, G, hs, hw, h, by simp⟩
  | region id ops draw =>
    intro hok Q hQ f G a w h hs hw
    have hok' : dstsOk n ops = true := hok
    cases draw with
    | false => exact wp_region_list (list_sound hok' (fun f G a w hk hs hw => ⟨f, G, hs, hw, hk, by simp⟩) _ (fun o ho => by simpa using ho) _ _ _ _ h hs hw)
    | true =>
      refine wp_region_draw fun t => ?_
      exact idx_sound hok' (fun f G a w hk hs hw => ⟨f, G, hs, hw, hk, by simp⟩) _ _ _ _ _ (h t) hs ⟨⟨hw.below.os, hw.below.tape, hw.below.output, hw.below.size, hw.below.block⟩, hw.obj, hw.own, Nat.le_succ_of_le hw.drawn⟩
  | seq x y ihx ihy =>
    intro hok Q hQ f G a w h hs hw
    simp only [codeOk, Bool.and_eq_true] at hok
    refine wp_seq (wp_mono (ihx hok.1 _ (by intro f G; simp [hQ]) f G a w h hs hw) ?_)
    rintro e a' w' ⟨f', G', hs', hw', hq, ho⟩
    cases e with
    | normal => exact ihy hok.2 Q hQ _ _ _ _ hq hs' hw'
    | _ => exact ⟨f', G', hs', hw', hq, ho⟩
  | cond c x y ihx ihy =>
    intro hok Q hQ f G a w h hs hw
    simp only [codeOk, Bool.and_eq_true] at hok
    obtain ⟨t, ht, hx, hy⟩ := h
    refine wp_cond_split (t := t) (by rw [hs.eval]; exact ht) (fun e => ihx hok.1 Q hQ _ _ _ _ (hx e) hs hw) (fun e => ihy hok.2 Q hQ _ _ _ _ (hy e) hs hw)
  | block id c ih =>
    intro hok Q hQ f G a w h hs hw
    refine wp_block (wp_mono (ih hok _ (by intro f G; simp [hQ]) f G a w h hs hw) ?_)
    rintro e a' w' ⟨f', G', hs', hw', hq, ho⟩
    cases e with
    | exit j =>
      simp only [Exit.inBlock]
      dsimp only at hq
      split at hq
      · rename_i e; rw [if_pos e]; exact ⟨f', G', hs', hw', hq, by simp⟩
      · rename_i e; rw [if_neg e]; exact ⟨f', G', hs', hw', hq, by simp⟩
    | _ => exact ⟨f', G', hs', hw', hq, ho⟩
  | loop c ih =>
    intro hok Q hQ f G a w h hs hw
    obtain ⟨I, m, hI, hround⟩ := h
    refine wp_loop_ghost (fun k a w => ∃ f G, Sim n f a ∧ Holds w0 G w ∧ I k f G) m ⟨f, G, hs, hw, hI⟩ ?_
    rintro k a w ⟨f, G, hs, hw, hI⟩
    refine wp_mono (ih hok _ (by intro f G; simp [hQ]) f G a w (hround k f G hI) hs hw) ?_
    rintro e a' w' ⟨f', G', hs', hw', hq, ho⟩
    cases e with
    | normal => obtain ⟨j, hj, hI'⟩ := hq; exact ⟨j, hj, f', G', hs', hw', hI'⟩
    | _ => exact ⟨f', G', hs', hw', hq, ho⟩
  | exit id => intro _ Q hQ f G a w h hs hw; exact wp_exit ⟨f, G, hs, hw, h, by simp⟩
  | ret => intro _ Q hQ f G a w h hs hw; exact wp_ret ⟨f, G, hs, hw, h, by simp⟩
  | _ => intro _ Q hQ f G a w h hs hw; exact h.elim
end
variable {P : Program}
def tupleOf : List Value → Value
  | [v] => v
  | vs => .tuple vs.toArray
noncomputable def Kr (P : Program) (K : Value → GH → Prop) (f : Fr) (G : GH) : List ResultVar → List Value → Prop
  | [], acc => K (tupleOf acc) G
  | .tmp t :: l, acc => Kr P K f G l (acc ++ [f t])
  | .cell a t :: l, acc => match pvLoad P t (f a) G with | some v => Kr P K f G l (acc ++ [v]) | none => False
def fr0 (args : List Value) : Fr := fun t => args.getD t undef
def still {α : Type} (P : Program) : Sem α → Prop
  | .pure _ => True
  | .load _ _ k => ∀ v, still P (k v)
  | .program k => still P (k P)
  | .halt _ => True
  | _ => False
theorem still_run {α : Type} {a : α} {w w' : World} : ∀ (s : Sem α), still P s → s.run P w = .ok a w' → w' = w := by
  intro s
  induction s with
  | pure b => intro _ h; cases h; rfl
  | load m ad k ih =>
    intro hs h
    unfold Sem.run at h
    split at h
    · exact ih _ (hs _) h
    · split at h
      · exact ih _ (hs _) h
      · cases h
  | program k ih => intro hs h; exact ih P hs h
  | halt _ => intro _ h; cases h
  | _ => intro hs; exact hs.elim
theorem still_bind {α β : Type} (s : Sem α) (k : α → Sem β) (hk : ∀ a, still P (k a)) : still P s → still P (s >>= k) := by
  show still P s → still P (Sem.bind s k)
  induction s with
  | pure b => intro _; exact hk b
  | load m ad k' ih => intro hs v; exact ih v (hs v)
  | program k' ih => intro hs; exact ih P hs
  | halt _ => intro _; trivial
  | _ => intro hs; exact hs.elim
theorem still_loadCellsFrom (a : Addr) : ∀ (n i : Nat) (acc : Array Value), still P (loadCellsFrom a i n acc)
  | 0, i, acc => by unfold loadCellsFrom; trivial
  | n + 1, i, acc => by
    unfold loadCellsFrom
    exact still_bind (load (a.add i)) _ (fun v => still_loadCellsFrom a n (i + 1) _) (fun v => trivial)
theorem still_underlying (t : TypeId) : still P (underlying t) := by
  unfold underlying
  refine still_bind _ _ (fun p => ?_) trivial
  split <;> trivial
theorem still_typeInfo (t : TypeId) : still P (typeInfo t) := by
  unfold typeInfo
  refine still_bind _ _ (fun p => ?_) trivial
  split <;> trivial
theorem still_loadVar (t : TypeId) (a : Addr) : still P (loadVar t a) := by
  unfold loadVar
  refine still_bind _ _ (fun b => ?_) ?_
  · split
    · refine still_bind _ _ (fun n => still_bind _ _ (fun cs => trivial) (still_loadCellsFrom _ _ _ _)) ?_
      unfold sizeOf
      exact still_bind _ _ (fun _ => trivial) (still_typeInfo t)
    · exact fun v => trivial
  · unfold isAgg
    refine still_bind _ _ (fun d => ?_) (still_underlying t)
    split <;> trivial
theorem load_run {t : TypeId} {p v : Value} {w0 w : World} {G : GH} (h : pvLoad P t p G = some v) (hw : Holds w0 G w) : ∃ a, p = .pointer (some a) ∧ (loadVar t a).run P w = .ok v w := by
  obtain ⟨a, rfl⟩ : ∃ a, p = .pointer (some a) := by
    unfold pvLoad at h
    split at h
    · exact ⟨_, rfl⟩
    · cases h
  refine ⟨a, rfl, ?_⟩
  have hg : gop P ⟨none, .load t (.const (.pointer (some a))), 0, "", #[], none⟩ (fun _ => undef) G (fun u _ => u = v) := by
    refine vop_sound _ _ _ _ ?_
    unfold vop
    simp only [ev, h]
    rfl
  have hg' : gwp P (vN (Instr.loadAt t (.pointer (some a)))) G (gnext P (fun u _ => u = v)) := hg
  rw [gwp_vN] at hg'
  unfold Instr.loadAt at hg'
  rw [gwp_bind] at hg'
  have hg' : gwp P (loadVar t a) G (fun u _ => u = v) := hg'
  obtain ⟨u, w', G', hr, _, e⟩ := gwp_sound P w0 _ _ _ _ hg' hw
  have hu : u = v := e
  have := still_run _ (still_loadVar t a) hr
  rw [hr, this, hu]
theorem mapM_run {n : Nat} {f : Fr} {a : Act} {w0 w : World} {G : GH} {K : Value → GH → Prop} (hs : Sim n f a) (hw : Holds w0 G w) : ∀ (l : List ResultVar) (acc : List Value), Kr P K f G l acc →
    ∃ vs, (l.mapM (fun (r : ResultVar) => (match r with | .tmp t => pure (a.tmps.getD t undef) | .cell ad t => do loadVar t (← asAddr (a.tmps.getD ad undef)) : Sem Value))).run P w = .ok vs w ∧ K (tupleOf (acc ++ vs)) G
  | [], acc, h => ⟨[], by simp, by rw [List.append_nil]; exact h⟩
  | .tmp t :: l, acc, h => by
    obtain ⟨vs, h1, h2⟩ := mapM_run hs hw l _ h
    refine ⟨f t :: vs, ?_, by simpa using h2⟩
    rw [List.mapM_cons]
    simp only [hs.val] at h1 ⊢
    simp only [Sem.run_bind, Sem.run_pure, Result.andThen_ok, h1]
  | .cell ad t :: l, acc, h => by
    unfold Kr at h
    split at h
    case h_2 => exact h.elim
    rename_i v hv
    obtain ⟨vs, h1, h2⟩ := mapM_run hs hw l _ h
    obtain ⟨b, hb, hr⟩ := load_run hv hw
    refine ⟨v :: vs, ?_, by simpa using h2⟩
    rw [List.mapM_cons]
    simp only [hs.val] at h1 ⊢
    have ha : asAddr (f ad) = pure b := by rw [hb]; rfl
    simp only [Sem.run_bind, ha, Sem.run_pure, Result.andThen_ok, hr, h1]
theorem resv_run {fn : Func} {n : Nat} {f : Fr} {a : Act} {w0 w : World} {G : GH} {K : Value → GH → Prop} (hs : Sim n f a) (hw : Holds w0 G w) (h : Kr P K f G fn.results.toList []) : ∃ v, (results fn a.tmps).run P w = .ok v w ∧ K v G := by
  obtain ⟨vs, h1, h2⟩ := mapM_run hs hw _ _ h
  refine ⟨tupleOf vs, ?_, by simpa using h2⟩
  unfold results
  rw [Array.mapM_eq_mapM_toList]
  rw [Sem.run_bind, map_eq_pure_bind, Sem.run_bind]
  erw [h1]
  simp only [Result.andThen_ok, Sem.run_pure]
  congr 1
  match vs with
  | [] => rfl
  | [v] => rfl
  | a :: b :: l => rfl
theorem fr0_sim {n : Nat} {args : List Value} (ha : args.length ≤ n) : Sim n (fr0 args) { tmps := args.toArray ++ Array.replicate (n - args.toArray.size) undef, defers := [] } := by
  refine ⟨by simp; omega, fun t => ?_, rfl⟩
  unfold fr0
  simp only [Array.getD_eq_getD_getElem?, Array.getElem?_append, List.size_toArray, List.getElem?_toArray]
  split
  · simp
  · rename_i h'
    simp only [Array.getElem?_replicate]
    have : args.getD t undef = undef := by rw [List.getD_eq_getElem?_getD, List.getElem?_eq_none (by omega)]; rfl
    rw [this]
    split <;> rfl
end Go.GL
