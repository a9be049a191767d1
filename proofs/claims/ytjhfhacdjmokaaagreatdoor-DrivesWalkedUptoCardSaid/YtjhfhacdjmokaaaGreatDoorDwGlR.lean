/- A part of a proof: Walk and Length are as specified for all roads and arcs (statement DrivesWalkedUptoCardSaid) -/
import Derived.Test.YtjhfhacdjmokaaaGreatDoorDwGlJ
set_option linter.unusedSimpArgs false
set_option linter.unusedVariables false
set_option linter.unusedSectionVars false
namespace Go.GL
open Go Go.RowKit
variable {P : Program}
def GH.sub (G G' : GH) : Prop := ∀ b o t, G b = some (o, t) → ∃ t', G' b = some (o, t') ∧ (t = true → t' = true)
theorem GH.le.sub {G G' : GH} (h : G.le G') : G.sub G' := fun b o t hb => ⟨t, h b (o, t) hb, id⟩
theorem sub_refl (G : GH) : G.sub G := fun _ _ t h => ⟨t, h, id⟩
theorem GH.sub.trans {G G1 G2 : GH} (h : G.sub G1) (h' : G1.sub G2) : G.sub G2 := fun b o t hb => let ⟨t1, h1, e1⟩ := h b o t hb; let ⟨t2, h2, e2⟩ := h' b o t1 h1; ⟨t2, h2, fun e => e2 (e1 e)⟩
theorem GH.sub.own {G G' : GH} (h : G.sub G') {b : Nat} {o : Obj} (hb : G b = some (o, true)) : G' b = some (o, true) := by
  obtain ⟨t', h1, h2⟩ := h b o true hb; rw [h1, h2 rfl]
theorem GH.sub.none {G G' : GH} (h : G.sub G') {b : Nat} (hb : G' b = none) : G b = none := by
  cases hG : G b with
  | none => rfl
  | some o => obtain ⟨t', h1, _⟩ := h b o.1 o.2 hG; rw [h1] at hb; cases hb
theorem put_sub {G G' : GH} (h : G.sub G') (b : Nat) (o : Obj × Bool) : (G.put b o).sub (G'.put b o) := by
  intro c x t hc; unfold GH.put at *; split
  · rename_i e; rw [if_pos e] at hc; exact ⟨t, hc, id⟩
  · rename_i e; rw [if_neg e] at hc; exact h _ _ _ hc
theorem GH.sub.cell {G G' : GH} (h : G.sub G') {a : Addr} {v : Value} (hc : gcell G a = some v) : gcell G' a = some v := by
  unfold gcell at *
  cases hG : G a.block with
  | none => simp [hG] at hc
  | some x => obtain ⟨o, t⟩ := x; obtain ⟨t', h1, _⟩ := h _ _ _ hG; rw [h1]; rw [hG] at hc; cases o <;> exact hc
theorem GH.sub.cells {G G' : GH} (h : G.sub G') {a : Addr} {n : Nat} {cs : List Value} (hc : gcells G a n = some cs) : gcells G' a n = some cs := by
  unfold gcells at *
  cases hG : G a.block with
  | none => simp [hG] at hc
  | some x => obtain ⟨o, t⟩ := x; obtain ⟨t', h1, _⟩ := h _ _ _ hG; rw [h1]; rw [hG] at hc; cases o <;> exact hc
theorem pvLook_sub {T : TypeId} {m k : Value} {ok : Bool} {G G' : GH} (h : G.sub G') {v : Value} (hv : pvLook P T m k ok G = some v) : pvLook P T m k ok G' = some v := by
  unfold pvLook at hv
  split at hv
  case h_2 => cases hv
  rename_i kt e r hT
  split at hv
  case h_2 => cases hv
  rename_i es clock t d z hG hd hz
  obtain ⟨t', h1, _⟩ := h _ _ _ hG
  unfold pvLook
  simp only [hT, h1, hd, hz]
  exact hv
theorem pvOf_sub {o : Oper} {f : Fr} {G G' : GH} (h : G.sub G') {v : Value} (hv : pvOf P o f G = some v) : pvOf P o f G' = some v := by
  obtain ⟨dst, op, T0, pos, after, guard⟩ := o
  unfold pvOf at *
  cases op <;> dsimp only at hv ⊢ <;> try exact hv
  case call c =>
    obtain ⟨callee, args, ats⟩ := c
    cases callee with
    | builtin b =>
      cases b <;> dsimp only at hv ⊢ <;> try exact hv
      unfold pvLen at *
      split
      · rename_i r hvs
        simp only [hvs] at hv
        split
        · rename_i t hts
          simp only [hts] at hv
          split at hv
          · rename_i hT hG
            obtain ⟨t', h1, _⟩ := h _ _ _ hG
            simp only [hT, h1]; exact hv
          · cases hv
        · simp_all
      · rename_i hne
        split at hv
        · rename_i r hvs; exact absurd hvs (hne r)
        · exact hv
    | _ => exact hv
  case lookup T m k ok => exact pvLook_sub h hv
  rename_i T p
  unfold pvLoad at *
  split at hv
  case h_2 => cases hv
  rename_i a ha
  split at hv
  · split at hv
    case isFalse => cases hv
    rename_i hz
    simp only [Option.map_eq_some_iff] at hv
    obtain ⟨cs, hcs, rfl⟩ := hv
    rw [if_pos hz, h.cells hcs]; rfl
  · exact h.cell hv
  · cases hv
theorem Holds.less {w0 : World} {G G' : GH} {w : World} (h : G.sub G') (hw : Holds w0 G' w) : Holds w0 G w :=
  ⟨hw.below, fun b o t hb => let ⟨t', h1, _⟩ := h _ _ _ hb; hw.obj b o t' h1, fun b o hb => hw.own b o (h.own hb), hw.drawn⟩
theorem GCalls.more {n : Nat} {args : Array Value} {G G' : GH} {K : Value → GH → Prop} (hc : GCalls P n args G K) (h : G.sub G') : GCalls P n args G' K := fun w0 w hw => hc w0 w (hw.less h)
def Kup (K : Value → GH → Prop) (v : Value) (G : GH) : Prop := ∃ G1, G1.sub G ∧ K v G1
theorem GCalls.up {n : Nat} {args : Array Value} {G : GH} {K : Value → GH → Prop} (hc : GCalls P n args G (Kup K)) : GCalls P n args G K :=
  fun w0 w hw => (hc w0 w hw).mono fun _ _ ⟨v, _, he, hh, G1, hl, hk⟩ => ⟨v, G1, he, hh.less hl, hk⟩
def UpR {α : Type} (R : GH → GH → Prop) (K : α → GH → Prop) : Prop := ∀ v G G', R G G' → K v G → K v G'
structure HRel (R : GH → GH → Prop) : Prop where
  sub : ∀ {G G'}, R G G' → G.sub G'
  put : ∀ {G G'}, R G G' → ∀ b o, R (G.put b o) (G'.put b o)
def UpK {α : Type} (K : α → GH → Prop) : Prop := ∀ v G G', G.sub G' → K v G → K v G'
theorem le_put2 {G G' : GH} (h : G.le G') (b : Nat) (o : Obj × Bool) : (G.put b o).le (G'.put b o) := by
  intro c x hc; unfold GH.put at *; split
  · rename_i e; rw [if_pos e] at hc; exact hc
  · rename_i e; rw [if_neg e] at hc; exact h _ _ hc
theorem relSub : HRel GH.sub := ⟨id, fun h b o => put_sub h b o⟩
theorem relLe : HRel GH.le := ⟨fun h => h.sub, fun h b o => le_put2 h b o⟩
theorem gwp_leR {R : GH → GH → Prop} (hR : HRel R) {α : Type} : ∀ (s : Sem α) (G G' : GH) (K : α → GH → Prop), UpR R K → R G G' → gwp P s G K → gwp P s G' K := by
  intro s
  induction s with
  | pure a => intro G G' K hu hl h; exact hu _ _ _ hl h
  | load m a k ih => intro G G' K hu hl h; obtain ⟨v, hv, h⟩ := h; exact ⟨v, (hR.sub hl).cell hv, ih _ _ _ _ hu hl h⟩
  | store m a v k ih =>
    intro G G' K hu hl h; obtain ⟨h1, h2, c, e, h3, h4, h5, h⟩ := h
    exact ⟨h1, h2, c, e, (hR.sub hl).own h3, h4, h5, ih _ _ _ hu (hR.put hl _ _) h⟩
  | new o k ih => intro G G' K hu hl h r hr; exact ih _ _ _ _ hu (hR.put hl _ _) (h r ((hR.sub hl).none hr))
  | shape r k ih => intro G G' K hu hl h; obtain ⟨c, e, fr, t, hG, h⟩ := h; obtain ⟨t', h1, _⟩ := (hR.sub hl) _ _ _ hG; exact ⟨c, e, fr, t', h1, ih _ _ _ _ hu hl h⟩
  | freeze a n k ih => intro G G' K hu hl h; exact h
  | frozen a k ih => intro G G' K hu hl h; obtain ⟨c, e, fr, t, hG, h⟩ := h; obtain ⟨t', h1, _⟩ := (hR.sub hl) _ _ _ hG; exact ⟨c, e, fr, t', h1, ih _ _ _ _ hu hl h⟩
  | getObj r k ih => intro G G' K hu hl h; obtain ⟨o, t, hG, hn, h⟩ := h; obtain ⟨t', h1, _⟩ := (hR.sub hl) _ _ _ hG; exact ⟨o, t', h1, hn, ih _ _ _ _ hu hl h⟩
  | setObj r o k ih => intro G G' K hu hl h; obtain ⟨o', hG, hn, h⟩ := h; exact ⟨o', (hR.sub hl).own hG, hn, ih _ _ _ hu (hR.put hl _ _) h⟩
  | choose q k ih => intro G G' K hu hl h t; exact ih _ _ _ _ hu hl (h t)
  | sys c k ih => intro G G' K hu hl h; exact h
  | program k ih => intro G G' K hu hl h; exact ih _ _ _ _ hu hl h
  | mark m k ih => intro G G' K hu hl h; exact ih _ _ _ hu hl h
  | halt h0 => intro G G' K hu hl h; exact h
theorem gop_leR {R : GH → GH → Prop} (hR : HRel R) {o : Oper} {f : Fr} {G G' : GH} {K : Value → GH → Prop} (hu : UpR R K) (hl : R G G') (h : gop P o f G K) : gop P o f G' K := by
  unfold gop at *
  refine gwp_leR hR _ _ _ _ ?_ hl h
  intro nx G1 G2 hl hn
  cases nx <;> first | exact hu _ _ _ hl hn | exact GCalls.more hn (hR.sub hl) | exact hn.elim
theorem vnew_leR {R : GH → GH → Prop} (hR : HRel R) {o : Obj} {G G' : GH} {K : Nat → GH → Prop} (hu : UpR R K) (hl : R G G') (h : vnew o G K) : vnew o G' K := fun r hr => hu _ _ _ (hR.put hl _ _) (h r ((hR.sub hl).none hr))
theorem vcall_leR {R : GH → GH → Prop} (hR : HRel R) {fv : Value} {args : List Value} {G G' : GH} {K : Value → GH → Prop} (hl : R G G') (h : vcall P fv args G K) : vcall P fv args G' K := by
  unfold vcall at *
  split at h
  · exact ⟨h.1, h.2.more (hR.sub hl)⟩
  · exact h.elim
theorem vset_leR {R : GH → GH → Prop} (hR : HRel R) {a : Addr} {vs : List Value} {G G' : GH} {K : GH → Prop} (hu : ∀ G G', R G G' → K G → K G') (hl : R G G') (h : vset a vs G K) : vset a vs G' K := by
  obtain ⟨h1, c, e, h2, h3, h4⟩ := h
  exact ⟨h1, c, e, (hR.sub hl).own h2, h3, hu _ _ (hR.put hl _ _) h4⟩
theorem vment_leR {R : GH → GH → Prop} (hR : HRel R) {T : TypeId} {m k : Value} {G G' : GH} {K : Value → GH → Prop} (hu : UpR R K) (hl : R G G') (h : vment P T m k G K) : vment P T m k G' K := by
  unfold vment at h
  split at h
  case h_2 => exact h.elim
  rename_i kt e r hT
  split at h
  case h_2 => exact h.elim
  rename_i es clock d z hG hd hz
  unfold vment
  simp only [hT, (hR.sub hl).own hG, hd, hz]
  refine ⟨h.1, ?_⟩
  have h2 := h.2
  split at h2
  · exact hu _ _ _ (hR.put hl _ _) h2
  · exact hu _ _ _ (hR.put hl _ _) h2
theorem ventry_leR {R : GH → GH → Prop} (hR : HRel R) {m b x : Value} {G G' : GH} {K : GH → Prop} (hu : ∀ G G', R G G' → K G → K G') (hl : R G G') (h : ventry m b x G K) : ventry m b x G' K := by
  unfold ventry at *
  split at h
  case h_2 => exact h.elim
  split at h
  case h_2 => exact h.elim
  rename_i hG
  simp only [(hR.sub hl).own hG]
  split at h
  · exact hu _ _ (hR.put hl _ _) h
  · exact h.elim
theorem vmupd_leR {R : GH → GH → Prop} (hR : HRel R) {T : TypeId} {m k x : Value} {G G' : GH} {K : GH → Prop} (hu : ∀ G G', R G G' → K G → K G') (hl : R G G') (h : vmupd P T m k x G K) : vmupd P T m k x G' K := by
  unfold vmupd at h
  split at h
  case h_2 => exact h.elim
  rename_i kt e r hT
  split at h
  case h_2 => exact h.elim
  rename_i es clock d hG hd
  unfold vmupd
  simp only [hT, (hR.sub hl).own hG, hd]
  refine ⟨h.1, ?_⟩
  have h2 := h.2
  split at h2
  · exact hu _ _ (hR.put hl _ _) h2
  · exact hu _ _ (hR.put hl _ _) h2
theorem vop_leR {R : GH → GH → Prop} (hR : HRel R) {o : Oper} {f : Fr} {G G' : GH} {K : Value → GH → Prop} (hu : UpR R K) (hl : R G G') (h : vop P o f G K) : vop P o f G' K := by
  by_cases h1 : cls o ≤ 1
  · rw [vop_pv h1] at h ⊢
    cases hv : pvOf P o f G with
    | none => rw [hv] at h; exact h.elim
    | some v => rw [hv] at h; rw [pvOf_sub (hR.sub hl) hv]; exact hu _ _ _ hl h
  obtain ⟨dst, op, T0, pos, after, guard⟩ := o
  unfold cls at h1
  unfold vop at *
  cases op <;> dsimp only at h h1 ⊢ <;> try (first | exact gop_leR hR hu hl h | (exfalso; omega))
  case typeAssert x T A ok =>
    cases ok with
    | true => exact gop_leR hR hu hl h
    | false => exact absurd (by decide) h1
  case alloc T =>
    unfold valloc at *
    split at h
    · exact vnew_leR hR (fun _ _ _ => hu _ _ _) hl h
    · exact h.elim
  case box T x => exact vnew_leR hR (fun _ _ _ => hu _ _ _) hl h
  case buildSlice T n ps =>
    unfold vbs at *
    split at h
    · exact vnew_leR hR (fun _ _ _ => hu _ _ _) hl h
    · exact h.elim
  case store T p x =>
    unfold vstore at *
    split at h
    · exact ⟨h.1, vset_leR hR (fun _ _ => hu _ _ _) hl h.2⟩
    · exact h.elim
  case makeSlice T x y =>
    unfold vms at *
    split at h
    · exact vnew_leR hR (fun _ _ _ => hu _ _ _) hl h
    · exact h.elim
  case makeMap t r =>
    cases r with
    | none => exact vnew_leR hR (fun _ _ _ => hu _ _ _) hl h
    | some r => exact gop_leR hR hu hl h
  case mapEntry T m k => exact vment_leR hR hu hl h
  case entryStore T m b x => exact ventry_leR hR (fun _ _ => hu _ _ _) hl h
  case mapUpdate T m k x => exact vmupd_leR hR (fun _ _ => hu _ _ _) hl h
  case call c =>
    obtain ⟨callee, args, ats⟩ := c
    cases callee with
    | value g => exact vcall_leR hR hl h
    | invoke r m => exact gop_leR hR hu hl h
    | builtin b => cases b <;> dsimp only at h h1 ⊢ <;> first | exact gop_leR hR hu hl h | (exfalso; omega)
theorem vop_le {o : Oper} {f : Fr} {G G' : GH} {K : Value → GH → Prop} (hu : UpK K) (hl : G.sub G') (h : vop P o f G K) : vop P o f G' K := vop_leR relSub hu hl h
theorem mop_up {G0 : GH} {o : Oper} {f : Fr} {G G' : GH} {K : Value → GH → Prop} (hu : UpR GH.le K) (hl : G.le G') (h : mop P G0 o f G K) : mop P G0 o f G' K := by
  obtain ⟨dst, op, T0, pos, after, guard⟩ := o
  unfold mop at *
  cases op <;> dsimp only at h ⊢ <;> try exact vop_leR relLe hu hl h
  case alloc T => exact fun r G2 a b c => h r G2 (le_trans' hl a) b c
  case box T x => exact fun r G2 a b c => h r G2 (le_trans' hl a) b c
  case buildSlice T n ps =>
    split at h
    · rename_i h1; rw [if_pos h1]; exact fun r G2 a b c => h r G2 (le_trans' hl a) b c
    · rename_i h1; rw [if_neg h1]; exact vop_leR relLe hu hl h
  case call c =>
    obtain ⟨callee, args, ats⟩ := c
    cases callee with
    | value g =>
      unfold mcall at *
      dsimp only at h ⊢
      split at h
      · obtain ⟨he, M, h1, h2, h3⟩ := h
        exact ⟨he, M, fun G1 a => h1 G1 (le_trans' hl a), h2, fun u G2 a b => h3 u G2 (le_trans' hl a) b⟩
      · exact h.elim
    | _ => exact vop_leR relLe hu hl h
theorem mrun_le {ops : Array Oper} {K : Fr → GH → Prop} (hu : UpR GH.le K) : ∀ (l : List Oper) {G0 : GH} (f : Fr) (G G' : GH), G.le G' → mrun P ops G0 K l f G → mrun P ops G0 K l f G'
  | [], _, f, G, G', hl, h => hu _ _ _ hl h
  | o :: l, G0, f, G, G', hl, h => by
    simp only [mrun, mrunAt, mstep_iff] at h ⊢
    split
    · rename_i hw; rw [if_pos hw] at h
      exact ⟨h.1, mop_up (fun v A B hab hA => mrun_le hu l _ A B hab hA) hl h.2⟩
    · rename_i hw; rw [if_neg hw] at h
      exact mrun_le hu l _ _ _ hl h
theorem gops_mono {ops : Array Oper} {K K' : Fr → GH → Prop} (hk : ∀ f G, K f G → K' f G) : ∀ (l : List Oper) (f : Fr) (G : GH), gops P ops K l f G → gops P ops K' l f G
  | [], f, G, h => hk _ _ h
  | o :: l, f, G, h => by
    simp only [gops] at h ⊢
    split
    · rename_i hw; rw [if_pos hw] at h; exact vop_mono h fun v G' => gops_mono hk l _ _
    · rename_i hw; rw [if_neg hw] at h; exact gops_mono hk l _ _ h
theorem gops_le {ops : Array Oper} {K : Fr → GH → Prop} (hu : UpK K) : ∀ (l : List Oper) (f : Fr) (G G' : GH), G.sub G' → gops P ops K l f G → gops P ops K l f G'
  | [], f, G, G', hl, h => hu _ _ _ hl h
  | o :: l, f, G, G', hl, h => by
    simp only [gops] at h ⊢
    split
    · rename_i hw; rw [if_pos hw] at h; exact vop_le (fun v A B hab hA => gops_le hu l _ A B hab hA) hl h
    · rename_i hw; rw [if_neg hw] at h; exact gops_le hu l _ _ _ hl h
theorem gidx_mono {ops : Array Oper} {K K' : Fr → GH → Prop} (hk : ∀ f G, K f G → K' f G) : ∀ (l : List Nat) (f : Fr) (G : GH), gidx P ops K l f G → gidx P ops K' l f G
  | [], f, G, h => hk _ _ h
  | i :: l, f, G, h => by
    simp only [gidx] at h ⊢
    cases ho : ops[i]? with
    | none => rw [ho] at h; exact gidx_mono hk l _ _ h
    | some o =>
      rw [ho] at h
      dsimp only at h ⊢
      split
      · rename_i hw; rw [if_pos hw] at h; exact vop_mono h fun v G' => gidx_mono hk l _ _
      · rename_i hw; rw [if_neg hw] at h; exact gidx_mono hk l _ _ h
theorem gidx_le {ops : Array Oper} {K : Fr → GH → Prop} (hu : UpK K) : ∀ (l : List Nat) (f : Fr) (G G' : GH), G.sub G' → gidx P ops K l f G → gidx P ops K l f G'
  | [], f, G, G', hl, h => hu _ _ _ hl h
  | i :: l, f, G, G', hl, h => by
    simp only [gidx] at h ⊢
    cases ho : ops[i]? with
    | none => rw [ho] at h; exact gidx_le hu l _ _ _ hl h
    | some o =>
      rw [ho] at h
      dsimp only at h ⊢
      split
      · rename_i hw; rw [if_pos hw] at h; exact vop_le (fun v A B hab hA => gidx_le hu l _ A B hab hA) hl h
      · rename_i hw; rw [if_neg hw] at h; exact gidx_le hu l _ _ _ hl h
def UpQ (Q : Exit → Fr → GH → Prop) : Prop := ∀ e f G G', G.sub G' → Q e f G → Q e f G'
theorem awp_mono : ∀ (c : Code) {Q Q' : Exit → Fr → GH → Prop}, (∀ e f G, Q e f G → Q' e f G) → ∀ (f : Fr) (G : GH), awp P c Q f G → awp P c Q' f G := by
  intro c
  induction c with
  | skip => intro Q Q' hq f G h; exact hq _ _ _ h
  | region id ops draw =>
    intro Q Q' hq f G h
    cases draw with
    | false => exact gops_mono (hq _) _ _ _ h
    | true => exact fun t => gidx_mono (hq _) _ _ _ (h t)
  | seq x y ihx ihy =>
    intro Q Q' hq f G h
    refine ihx ?_ f G h
    intro e f' G' he
    cases e with
    | normal => exact ihy hq _ _ he
    | _ => exact hq _ _ _ he
  | cond c x y ihx ihy =>
    intro Q Q' hq f G h
    obtain ⟨t, ht, hx, hy⟩ := h
    exact ⟨t, ht, fun e => ihx hq _ _ (hx e), fun e => ihy hq _ _ (hy e)⟩
  | block id c ih =>
    intro Q Q' hq f G h
    refine ih ?_ f G h
    intro e f' G' he
    cases e with
    | exit j =>
      dsimp only at he ⊢
      split
      · rename_i e; rw [if_pos e] at he; exact hq _ _ _ he
      · rename_i e; rw [if_neg e] at he; exact hq _ _ _ he
    | _ => exact hq _ _ _ he
  | loop c ih =>
    intro Q Q' hq f G h
    obtain ⟨I, m, h0, hr⟩ := h
    refine ⟨I, m, h0, fun k f G hi => ih ?_ f G (hr k f G hi)⟩
    intro e f' G' he
    cases e with
    | normal => exact he
    | _ => exact hq _ _ _ he
  | exit id => intro Q Q' hq f G h; exact hq _ _ _ h
  | ret => intro Q Q' hq f G h; exact hq _ _ _ h
  | _ => intro Q Q' hq f G h; exact h.elim
theorem awp_le : ∀ (c : Code) {Q : Exit → Fr → GH → Prop}, UpQ Q → ∀ (f : Fr) (G G' : GH), G.sub G' → awp P c Q f G → awp P c Q f G' := by
  intro c
  induction c with
  | skip => intro Q hu f G G' hl h; exact hu _ _ _ _ hl h
  | region id ops draw =>
    intro Q hu f G G' hl h
    cases draw with
    | false => exact gops_le (fun f A B => hu _ f A B) _ _ _ _ hl h
    | true => exact fun t => gidx_le (fun f A B => hu _ f A B) _ _ _ _ hl (h t)
  | seq x y ihx ihy =>
    intro Q hu f G G' hl h
    refine ihx ?_ f G G' hl h
    intro e f A B hab he
    cases e with
    | normal => exact ihy hu _ _ _ hab he
    | _ => exact hu _ _ _ _ hab he
  | cond c x y ihx ihy =>
    intro Q hu f G G' hl h
    obtain ⟨t, ht, hx, hy⟩ := h
    exact ⟨t, ht, fun e => ihx hu _ _ _ hl (hx e), fun e => ihy hu _ _ _ hl (hy e)⟩
  | block id c ih =>
    intro Q hu f G G' hl h
    refine ih ?_ f G G' hl h
    intro e f A B hab he
    cases e with
    | exit j =>
      dsimp only at he ⊢
      split
      · rename_i e; rw [if_pos e] at he; exact hu _ _ _ _ hab he
      · rename_i e; rw [if_neg e] at he; exact hu _ _ _ _ hab he
    | _ => exact hu _ _ _ _ hab he
  | loop c ih =>
    intro Q hu f G G' hl h
    obtain ⟨I, m, h0, hr⟩ := h
    refine ⟨fun k f G => ∃ G1, G1.sub G ∧ I k f G1, m, ⟨G, hl, h0⟩, ?_⟩
    rintro k f G2 ⟨G1, hl1, hi⟩
    have h2 := hr k f G1 hi
    refine ih (Q := fun e f' G' => match e with | .normal => ∃ j, j < k ∧ ∃ G1, G1.sub G' ∧ I j f' G1 | e => Q e f' G') ?_ f G1 G2 hl1 (awp_mono c ?_ f G1 h2)
    · intro e f A B hab he
      cases e with
      | normal => obtain ⟨j, hj, G3, h3, h4⟩ := he; exact ⟨j, hj, G3, h3.trans hab, h4⟩
      | _ => exact hu _ _ _ _ hab he
    · intro e f A he
      cases e with
      | normal => obtain ⟨j, hj, h4⟩ := he; exact ⟨j, hj, A, sub_refl A, h4⟩
      | _ => exact he
  | exit id => intro Q hu f G G' hl h; exact hu _ _ _ _ hl h
  | ret => intro Q hu f G G' hl h; exact hu _ _ _ _ hl h
  | _ => intro Q hu f G G' hl h; exact h.elim
theorem pvLoad_le {T : TypeId} {p v : Value} {G G' : GH} (hl : G.sub G') (h : pvLoad P T p G = some v) : pvLoad P T p G' = some v :=
  pvOf_sub (P := P) (o := ⟨none, .load T (.const p), 0, "", #[], none⟩) (f := fun _ => undef) hl h
theorem Kr_le {K : Value → GH → Prop} (hu : UpK K) {f : Fr} {G G' : GH} (hl : G.sub G') : ∀ (l : List ResultVar) (acc : List Value), Kr P K f G l acc → Kr P K f G' l acc
  | [], acc, h => hu _ _ _ hl h
  | .tmp t :: l, acc, h => Kr_le hu hl l _ h
  | .cell a t :: l, acc, h => by
    unfold Kr at *
    split at h
    case h_2 => exact h.elim
    rename_i v hv
    rw [pvLoad_le hl hv]
    exact Kr_le hu hl l _ h
theorem Kup_up (K : Value → GH → Prop) : UpK (Kup K) := fun _ _ _ hl ⟨G1, h1, h2⟩ => ⟨G1, h1.trans hl, h2⟩
def autoPick (ops : Array Oper) (ms : Array Nat) (rest : List Nat) (i : Nat) : Bool :=
  !(edgeB ops i i) && rest.all (fun j => (j == i) || (!(edgeB ops j i) && !((ops[i]?).map cls == some 4 && (ops[j]?).map cls == some 3) && (match ops[i]?, ops[j]? with | some x, some y => reachB ms i j || free ops x y | _, _ => false)))
def autoGo (ops : Array Oper) (ms : Array Nat) : Nat → List Nat → List Nat
  | 0, _ => []
  | n + 1, rest => match rest.find? (autoPick ops ms rest) with
    | some i => i :: autoGo ops ms n (rest.filter (· != i))
    | none => []
def autoOrder (l : List Oper) : List Nat := autoGo l.toArray (masks l #[]) l.length (List.range l.length)
end Go.GL
