/- A part of a proof: Walk and Length are as specified for all roads and arcs (statement DrivesWalkedUptoCardSaid) -/
import Derived.Test.YtjhfhacdjmokaaaGreatDoorDwGlR
set_option linter.unusedSimpArgs false
set_option linter.unusedVariables false
set_option linter.unusedSectionVars false
namespace Go.GL
open Go Go.RowKit
variable {P : Program}
def isOne {α : Type} : List α → Bool
  | [_] => true
  | _ => false
theorem nr {α : Sort _} {a b : α} (h : a = b) : a = b := h
inductive It where
  | code (c : Code)
  | blk (id : Nat)
  | lp (I : Nat → Fr → GH → Prop) (k : Nat)
  | cut (J : Fr → GH → Prop)
noncomputable def fin (P : Program) (rs : Array ResultVar) (K : Value → GH → Prop) : Exit → Fr → GH → Prop
  | .normal, f, G => Kr P (Kup K) f G rs.toList []
  | .ret, f, G => Kr P (Kup K) f G rs.toList []
  | _, _, _ => False
noncomputable def Qof (P : Program) (rs : Array ResultVar) (K : Value → GH → Prop) : List It → Exit → Fr → GH → Prop
  | [] => fin P rs K
  | .code b :: s => fun e f G => match e with | .normal => awp P b (Qof P rs K s) f G | e => Qof P rs K s e f G
  | .blk id :: s => fun e f G => match e with | .exit j => if j = id then Qof P rs K s .normal f G else Qof P rs K s (.exit j) f G | e => Qof P rs K s e f G
  | .lp I k :: s => fun e f G => match e with | .normal => ∃ j, j < k ∧ ∃ G1, G1.sub G ∧ I j f G1 | e => Qof P rs K s e f G
  | .cut J :: s => fun e f G => match e with | .normal => ∃ G1, G1.sub G ∧ J f G1 | e => Qof P rs K s e f G
noncomputable def X (P : Program) (rs : Array ResultVar) (K : Value → GH → Prop) (s : List It) (c : Code) (f : Fr) (G : GH) : Prop := awp P c (Qof P rs K s) f G
noncomputable def N (P : Program) (rs : Array ResultVar) (K : Value → GH → Prop) (s : List It) (f : Fr) (G : GH) : Prop := Qof P rs K s .normal f G
noncomputable def E (P : Program) (rs : Array ResultVar) (K : Value → GH → Prop) (s : List It) (e : Exit) (f : Fr) (G : GH) : Prop := Qof P rs K s e f G
noncomputable def Y (P : Program) (rs : Array ResultVar) (K : Value → GH → Prop) (s : List It) (ops : List Oper) (md : Option GH) (l : List Oper) (f : Fr) (G : GH) : Prop :=
  match md with
  | none => gops P ops.toArray (Qof P rs K s .normal) l f G
  | some G0 => mrun P ops.toArray G0 (Qof P rs K s .normal) l f G
section
variable (P) (rs : Array ResultVar) (K : Value → GH → Prop) (s : List It) (ops : List Oper) (md : Option GH) (d : Option Nat) (l : List Oper) (f : Fr) (G : GH)
def Yp (o : Option Value) : Prop := match o with | some v => Y P rs K s ops md l (put f d v) G | none => False
def Yw (o : Option Bool) (want : Bool) (op : Oper) : Prop := if o == some want then Y P rs K s ops md (op :: l) f G else Y P rs K s ops md l (put f d undef) G
def Ynew (o : Obj) (mk : Nat → Value) : Prop := vnew o G (fun r G' => Y P rs K s ops md l (put f d (mk r)) G')
def Ynew' (o : Obj) (mk : Nat → Value) : Prop := match md with | none => vnew o G (fun r G' => Y P rs K s ops none l (put f d (mk r)) G') | some G0 => mnew G0 o G (fun r G' => Y P rs K s ops (some (G0.put r (o, true))) l (put f d (mk r)) G')
def Yset (a : Addr) (vs : List Value) : Prop := vset a vs G (fun G' => Y P rs K s ops md l (put f d undef) G')
def Yst (T : TypeId) (p v : Value) : Prop := vstore P T p v G (fun G' => Y P rs K s ops md l (put f d undef) G')
def Yal (T : TypeId) : Prop := match md with | none => valloc P T G (fun r G' => Y P rs K s ops none l (put f d (.pointer (some ⟨r, 0, none⟩))) G') | some G0 => mnew G0 (.cells ((tyZ P T).getD undef).cells T (0, 0)) G (fun r G' => Y P rs K s ops (some (G0.put r (.cells ((tyZ P T).getD undef).cells T (0, 0), true))) l (put f d (.pointer (some ⟨r, 0, none⟩))) G')
def Yfv (fv : Value) (args : List Value) : Prop := match md with | none => vcall P fv args G (fun v G' => Y P rs K s ops none l (put f d v) G') | some G0 => mcall P fv args G (fun v G' => Y P rs K s ops (some G0) l (put f d v) G')
def Ycall (n : Nat) (args : List Value) : Prop := match md with
  | none => GCalls P n args.toArray G (fun v G' => Y P rs K s ops none l (put f d v) G')
  | some G0 => ∃ M : Value → GH → Prop, (∀ G1, G.le G1 → GCalls P n args.toArray G1 (fun u G2 => G1.le G2 ∧ M u G2)) ∧ (∀ u G1 G2, M u G1 → G1.le G2 → M u G2) ∧ ∀ u G2, G.le G2 → M u G2 → Y P rs K s ops (some G0) l (put f d u) G2
def Yg (c : Sem Value) : Prop := gwp P c G (fun v G' => Y P rs K s ops md l (put f d v) G')
def Yment (T : TypeId) (m k : Value) : Prop := vment P T m k G (fun v G' => Y P rs K s ops md l (put f d v) G')
def Yent (m t x : Value) : Prop := ventry m t x G (fun G' => Y P rs K s ops md l (put f d undef) G')
def Ymupd (T : TypeId) (m k x : Value) : Prop := vmupd P T m k x G (fun G' => Y P rs K s ops md l (put f d undef) G')
def Ybs (c : Option (List Value × TypeId)) (n : Nat) (one syn : Bool) : Prop := match md, one with
  | some G0, true => (syn = true ∨ c.isSome = true) ∧ mnew G0 (bsObj c) G (fun r G' => Y P rs K s ops (some (G0.put r (bsObj c, true))) l (put f d (.slice (some ⟨r, 0, none⟩) n n)) G')
  | md, _ => vbs c n G (fun v G' => Y P rs K s ops md l (put f d v) G')
def Yms (T : TypeId) (x y : Value) : Prop := vms (msCells P T x y) G (fun v G' => Y P rs K s ops md l (put f d v) G')
def Yo (op : Op) (T0 : TypeId) : Prop := vop P ⟨d, op, T0, "", #[], none⟩ f G (fun v G' => Y P rs K s ops md l (put f d v) G')
end
def Xc (P : Program) (rs : Array ResultVar) (K : Value → GH → Prop) (s : List It) (v : Value) (a b : Code) (f : Fr) (G : GH) : Prop :=
  ∃ t, v = .bool t ∧ (t = true → X P rs K s a f G) ∧ (t = false → X P rs K s b f G)
def Xloop (P : Program) (rs : Array ResultVar) (K : Value → GH → Prop) (s : List It) (c : Code) (f : Fr) (G : GH) : Prop := X P rs K s (.loop c) f G
def Xdraw (P : Program) (rs : Array ResultVar) (K : Value → GH → Prop) (s : List It) (id : Nat) (l : List Oper) (f : Fr) (G : GH) : Prop := X P rs K s (.region id l.toArray true) f G
def vguard (p q : Prop) : Prop := p ∧ q
section
variable (rs : Array ResultVar) (K : Value → GH → Prop) (s : List It) (f : Fr) (G : GH)
theorem X_skip : X P rs K s .skip f G = N P rs K s f G := nr rfl
theorem X_region (id : Nat) (l : List Oper) : X P rs K s (.region id l.toArray false) f G = Y P rs K s l none l f G := nr rfl
theorem X_draw (id : Nat) (l : List Oper) : X P rs K s (.region id l.toArray true) f G = Xdraw P rs K s id l f G := nr rfl
theorem X_seq (a b : Code) : X P rs K s (.seq a b) f G = X P rs K (.code b :: s) a f G := nr rfl
theorem X_assoc (a b c : Code) : X P rs K s (.seq a (.seq b c)) f G = X P rs K s (.seq (.seq a b) c) f G := by
  rw [X_seq, X_seq, X_seq]
  unfold X
  congr 1
  funext e f G
  cases e <;> rfl
theorem X_block (id : Nat) (c : Code) : X P rs K s (.block id c) f G = X P rs K (.blk id :: s) c f G := nr rfl
theorem X_cond (c : Operand) (a b : Code) : X P rs K s (.cond c a b) f G = Xc P rs K s (ev f c) a b f G := nr rfl
theorem X_loop (c : Code) : X P rs K s (.loop c) f G = Xloop P rs K s c f G := nr rfl
theorem X_exit (id : Nat) : X P rs K s (.exit id) f G = E P rs K s (.exit id) f G := nr rfl
theorem X_ret : X P rs K s .ret f G = E P rs K s .ret f G := nr rfl
theorem N_nil (rs : List ResultVar) : N P rs.toArray K [] f G = Kr P (Kup K) f G rs [] := nr rfl
theorem N_code (b : Code) : N P rs K (.code b :: s) f G = X P rs K s b f G := nr rfl
theorem N_blk (id : Nat) : N P rs K (.blk id :: s) f G = N P rs K s f G := nr rfl
theorem N_lp (I : Nat → Fr → GH → Prop) (k : Nat) : N P rs K (.lp I k :: s) f G = ∃ j, j < k ∧ ∃ G1, G1.sub G ∧ I j f G1 := nr rfl
theorem N_cut (J : Fr → GH → Prop) : N P rs K (.cut J :: s) f G = ∃ G1, G1.sub G ∧ J f G1 := nr rfl
theorem E_ret (rs : List ResultVar) : E P rs.toArray K s .ret f G = Kr P (Kup K) f G rs [] := by
  unfold E
  induction s with
  | nil => rfl
  | cons i s ih => cases i <;> exact ih
theorem E_code (b : Code) (j : Nat) : E P rs K (.code b :: s) (.exit j) f G = E P rs K s (.exit j) f G := nr rfl
theorem E_blk (id j : Nat) : E P rs K (.blk id :: s) (.exit j) f G = if j = id then N P rs K s f G else E P rs K s (.exit j) f G := nr rfl
theorem E_cut (J : Fr → GH → Prop) (j : Nat) : E P rs K (.cut J :: s) (.exit j) f G = E P rs K s (.exit j) f G := nr rfl
theorem E_lp (I : Nat → Fr → GH → Prop) (k j : Nat) : E P rs K (.lp I k :: s) (.exit j) f G = E P rs K s (.exit j) f G := nr rfl
theorem Xc_true (a b : Code) : Xc P rs K s (.bool true) a b f G = X P rs K s a f G := by simp [Xc]
theorem Xc_false (a b : Code) : Xc P rs K s (.bool false) a b f G = X P rs K s b f G := by simp [Xc]
theorem Xc_split {p : Prop} [Decidable p] {a b : Code} (hx : p → X P rs K s a f G) (hy : ¬ p → X P rs K s b f G) : Xc P rs K s (.bool (decide p)) a b f G :=
  ⟨_, rfl, fun h => hx (of_decide_eq_true h), fun h => hy (of_decide_eq_false h)⟩
theorem Xc_bool {t : Bool} {a b : Code} (hx : t = true → X P rs K s a f G) (hy : t = false → X P rs K s b f G) : Xc P rs K s (.bool t) a b f G := ⟨_, rfl, hx, hy⟩
theorem Xc_pos {p : Prop} [Decidable p] {a b : Code} (h : p) (hx : X P rs K s a f G) : Xc P rs K s (.bool (decide p)) a b f G := by
  rw [decide_eq_true h]; exact ⟨_, rfl, fun _ => hx, fun e => by cases e⟩
theorem Xc_neg {p : Prop} [Decidable p] {a b : Code} (h : ¬ p) (hx : X P rs K s b f G) : Xc P rs K s (.bool (decide p)) a b f G := by
  rw [decide_eq_false h]; exact ⟨_, rfl, fun e => (by cases e), fun _ => hx⟩
theorem Qof_up : ∀ s : List It, UpQ (Qof P rs K s)
  | [] => by
    intro e f G G' hl h
    cases e with
    | normal => exact Kr_le (Kup_up K) hl _ _ h
    | ret => exact Kr_le (Kup_up K) hl _ _ h
    | _ => exact h
  | .code b :: s => by
    intro e f G G' hl h
    cases e with
    | normal => exact awp_le b (Qof_up s) _ _ _ hl h
    | _ => exact Qof_up s _ _ _ _ hl h
  | .blk id :: s => by
    intro e f G G' hl h
    cases e with
    | exit j =>
      simp only [Qof] at h ⊢
      split
      · rename_i e; rw [if_pos e] at h; exact Qof_up s _ _ _ _ hl h
      · rename_i e; rw [if_neg e] at h; exact Qof_up s _ _ _ _ hl h
    | _ => exact Qof_up s _ _ _ _ hl h
  | .lp I k :: s => by
    intro e f G G' hl h
    cases e with
    | normal => obtain ⟨j, hj, G1, h1, h2⟩ := h; exact ⟨j, hj, G1, h1.trans hl, h2⟩
    | _ => exact Qof_up s _ _ _ _ hl h
  | .cut J :: s => by
    intro e f G G' hl h
    cases e with
    | normal => obtain ⟨G1, h1, h2⟩ := h; exact ⟨G1, h1.trans hl, h2⟩
    | _ => exact Qof_up s _ _ _ _ hl h
theorem Xless {c : Code} {G1 : GH} (hl : G1.sub G) (h : X P rs K s c f G1) : X P rs K s c f G := awp_le c (Qof_up rs K s) _ _ _ hl h
theorem Xloop_intro {c : Code} (I : Nat → Fr → GH → Prop) (m : Nat) (h0 : I m f G) (h : ∀ k f G, I k f G → X P rs K (.lp I k :: s) c f G) : Xloop P rs K s c f G := by
  refine ⟨fun k f G => ∃ G1, G1.sub G ∧ I k f G1, m, ⟨G, sub_refl G, h0⟩, ?_⟩
  rintro k f G2 ⟨G1, hl, hi⟩
  exact awp_le c (Qof_up rs K (.lp I k :: s)) _ _ _ hl (h k f G1 hi)
theorem Xcut {c b : Code} (J : Fr → GH → Prop) (h1 : X P rs K (.cut J :: s) c f G) (h2 : ∀ f G, J f G → X P rs K s b f G) : X P rs K (.code b :: s) c f G := by
  refine awp_mono c ?_ f G h1
  intro e f G he
  cases e with
  | normal => obtain ⟨G1, hl, hj⟩ := he; exact awp_le b (Qof_up rs K s) _ _ _ hl (h2 _ _ hj)
  | _ => exact he
end
section
variable (rs : Array ResultVar) (K : Value → GH → Prop) (s : List It) (ops : List Oper) (md : Option GH) (d : Option Nat) (l : List Oper) (f : Fr) (G : GH) (T0 : TypeId) (pos : String) (aft : Array Edge)
theorem Y_nil : Y P rs K s ops md [] f G = N P rs K s f G := by cases md <;> rfl
theorem Y_move (x : Operand) : Y P rs K s ops md (⟨d, .move x, T0, pos, aft, none⟩ :: l) f G = Y P rs K s ops md l (put f d (ev f x)) G := by cases md <;> rfl
theorem Y_assign (x : Operand) : Y P rs K s ops md (⟨d, .assign x, T0, pos, aft, none⟩ :: l) f G = Y P rs K s ops md l (put f d (ev f x)) G := by cases md <;> rfl
theorem Y_guard (op : Op) (j : Nat) (w : Bool) : Y P rs K s ops md (⟨d, op, T0, pos, aft, some (j, w)⟩ :: l) f G = Yw P rs K s ops md d l f G (gyield ops.toArray f j) w ⟨d, op, T0, pos, aft, none⟩ := by
  cases md with
  | none =>
    show (if Region.wanted _ _ then _ else _) = _
    unfold Yw Region.wanted; rfl
  | some G0 =>
    show (if Region.wanted _ _ then _ else mrunAt P ops.toArray _ l (mnx P G0 _ f undef) _ G) = _
    rw [mnx_undef]
    unfold Yw Region.wanted; rfl
theorem Y_pick (c a b : Operand) : Y P rs K s ops md (⟨d, .pick c a b, T0, pos, aft, none⟩ :: l) f G = Yp P rs K s ops md d l f G (pvPick (ev f c) (ev f a) (ev f b)) := by cases md <;> rfl
theorem Y_alloc (T : TypeId) : Y P rs K s ops md (⟨d, .alloc T, T0, pos, aft, none⟩ :: l) f G = Yal P rs K s ops md d l f G T := by cases md <;> rfl
theorem Y_box (T : TypeId) (x : Operand) : Y P rs K s ops md (⟨d, .box T x, T0, pos, aft, none⟩ :: l) f G = Ynew' P rs K s ops md d l f G (.cells (ev f x).cells T (0, 0)) (fun r => .pointer (some ⟨r, 0, none⟩)) := by cases md <;> rfl
theorem Y_load (T : TypeId) (p : Operand) : Y P rs K s ops md (⟨d, .load T p, T0, pos, aft, none⟩ :: l) f G = Yp P rs K s ops md d l f G (pvLoad P T (ev f p) G) := by cases md <;> rfl
theorem Y_store (T : TypeId) (p x : Operand) : Y P rs K s ops md (⟨d, .store T p x, T0, pos, aft, none⟩ :: l) f G = Yst P rs K s ops md d l f G T (ev f p) (ev f x) := by cases md <;> rfl
theorem Y_nilCheck (x : Operand) : Y P rs K s ops md (⟨d, .nilCheck x, T0, pos, aft, none⟩ :: l) f G = Yp P rs K s ops md d l f G (pvNil (ev f x)) := by cases md <;> rfl
theorem Y_binOp (op : BinOp) (T T' : TypeId) (x y : Operand) : Y P rs K s ops md (⟨d, .binOp op T x y T', T0, pos, aft, none⟩ :: l) f G = Yp P rs K s ops md d l f G (pvB P op T x y (ev f x) (ev f y)) := by cases md <;> rfl
theorem Y_unOp (op : UnOp) (T : TypeId) (x : Operand) : Y P rs K s ops md (⟨d, .unOp op T x, T0, pos, aft, none⟩ :: l) f G = Yp P rs K s ops md d l f G (pvU P op (ev f x)) := by cases md <;> rfl
theorem Y_convert (a b : TypeId) (x : Operand) : Y P rs K s ops md (⟨d, .convert a b x, T0, pos, aft, none⟩ :: l) f G = Yp P rs K s ops md d l f G (pvConv P a b (ev f x)) := by cases md <;> rfl
theorem Y_iface (T : TypeId) (x : Operand) : Y P rs K s ops md (⟨d, .makeInterface T x, T0, pos, aft, none⟩ :: l) f G = Yp P rs K s ops md d l f G (pvIface P T (ev f x)) := by cases md <;> rfl
theorem Y_slice (T : TypeId) (x : Operand) (lo hi m : Option Operand) : Y P rs K s ops md (⟨d, .slice T x lo hi m, T0, pos, aft, none⟩ :: l) f G = Yp P rs K s ops md d l f G (pvSlice P T (ev f x) (lo.map (ev f)) (hi.map (ev f)) (m.map (ev f))) := by cases md <;> rfl
theorem Y_build (T : TypeId) (ps : List (Nat × Operand)) : Y P rs K s ops md (⟨d, .build T ps.toArray, T0, pos, aft, none⟩ :: l) f G = Yp P rs K s ops md d l f G (pvBuild P T (ps.map fun p => (p.1, ev f p.2))) := by cases md <;> rfl
theorem Y_lookup (T : TypeId) (x k : Operand) (ok : Bool) : Y P rs K s ops md (⟨d, .lookup T x k ok, T0, pos, aft, none⟩ :: l) f G = Yp P rs K s ops md d l f G (pvLook P T (ev f x) (ev f k) ok G) := by cases md <;> rfl
theorem Y_mapEntry (T : TypeId) (x k : Operand) : Y P rs K s ops md (⟨d, .mapEntry T x k, T0, pos, aft, none⟩ :: l) f G = Yment P rs K s ops md d l f G T (ev f x) (ev f k) := by cases md <;> rfl
theorem Y_entryStore (T : TypeId) (x k y : Operand) : Y P rs K s ops md (⟨d, .entryStore T x k y, T0, pos, aft, none⟩ :: l) f G = Yent P rs K s ops md d l f G (ev f x) (ev f k) (ev f y) := by cases md <;> rfl
theorem Y_mapUpdate (T : TypeId) (x k y : Operand) : Y P rs K s ops md (⟨d, .mapUpdate T x k y, T0, pos, aft, none⟩ :: l) f G = Ymupd P rs K s ops md d l f G T (ev f x) (ev f k) (ev f y) := by cases md <;> rfl
theorem Y_buildSlice (T : TypeId) (n : Nat) (ps : List (Nat × Operand)) : Y P rs K s ops md (⟨d, .buildSlice T n ps.toArray, T0, pos, aft, none⟩ :: l) f G = Ybs P rs K s ops md d l f G (bsCells P T n (ps.map fun p => (p.1, ev f p.2))) n (isOne ps) (bsSyn ops.toArray ⟨d, .buildSlice T n ps.toArray, T0, pos, aft, none⟩) := by
  cases md with
  | none => cases hps : isOne ps <;> rfl
  | some G0 =>
    match ps with
    | [] =>
      apply propext
      exact ⟨fun h => h.2, fun h => ⟨fun q => absurd q (by decide), h⟩⟩
    | [p] =>
      apply propext
      exact ⟨fun h => ⟨h.1 rfl, h.2⟩, fun h => ⟨fun _ => h.1, h.2⟩⟩
    | p :: q :: ps =>
      have h : ¬ (p :: q :: ps).toArray.size = 1 := by simp
      have hw : ∀ K, mstep P ops.toArray G0 ⟨d, .buildSlice T n (p :: q :: ps).toArray, T0, pos, aft, none⟩ f G K = mop P G0 ⟨d, .buildSlice T n (p :: q :: ps).toArray, T0, pos, aft, none⟩ f G K := fun K => propext ⟨fun q => q.2, fun q => ⟨fun e => absurd e h, q⟩⟩
      have hx : ∀ v, mnx P G0 ⟨d, .buildSlice T n (p :: q :: ps).toArray, T0, pos, aft, none⟩ f v = G0 := fun v => by unfold mnx; exact if_neg h
      simp only [Y, mrun, mrunAt, hw, hx]
      unfold mop
      dsimp only
      rw [if_neg h]
      rfl
theorem isOne_nil {α : Type} : isOne ([] : List α) = false := nr rfl
theorem isOne_one {α : Type} (a : α) : isOne [a] = true := nr rfl
theorem isOne_two {α : Type} (a b : α) (l : List α) : isOne (a :: b :: l) = false := nr rfl
theorem Ybs_one (c : List Value) (e : TypeId) (n : Nat) (syn : Bool) : Ybs P rs K s ops md d l f G (some (c, e)) n true syn = Ynew' P rs K s ops md d l f G (.cells c.toArray e (0, 0)) (fun r => .slice (some ⟨r, 0, none⟩) n n) := by
  cases md with
  | none => exact nr rfl
  | some G0 => exact propext ⟨fun h => h.2, fun h => ⟨.inr rfl, h⟩⟩
theorem Ybs_many (c : List Value) (e : TypeId) (n : Nat) (syn : Bool) : Ybs P rs K s ops md d l f G (some (c, e)) n false syn = Ynew P rs K s ops md d l f G (.cells c.toArray e (0, 0)) (fun r => .slice (some ⟨r, 0, none⟩) n n) := by cases md <;> exact nr rfl
theorem yg (o : Oper) (c : Sem Value) (h1 : o.guard = none) (hd : o.dst = d) (h : execOp (ev f) o = vN c) (hv : ∀ K, vop P o f G K = gop P o f G K) (hm : ∀ G0 K, mop P G0 o f G K = vop P o f G K) (hx : ∀ G0 v, mnx P G0 o f v = G0) (hst : ∀ G0 K, mstep P ops.toArray G0 ⟨o.dst, o.op, o.type, o.pos, o.after, none⟩ f G K = mop P G0 ⟨o.dst, o.op, o.type, o.pos, o.after, none⟩ f G K) : Y P rs K s ops md (o :: l) f G = Yg P rs K s ops md d l f G c := by
  obtain ⟨dst, op, T0, pos, after, guard⟩ := o
  cases h1; cases hd
  have e : vop P ⟨dst, op, T0, pos, after, none⟩ f G (fun v G' => Y P rs K s ops md l (put f dst v) G') = Yg P rs K s ops md dst l f G c := by
    rw [hv]; unfold gop; rw [h, gwp_vN]; rfl
  rw [← e]
  cases md with
  | none => rfl
  | some G0 =>
    have hw : ∀ K, mstep P ops.toArray G0 ⟨dst, op, T0, pos, after, none⟩ f G K = mop P G0 ⟨dst, op, T0, pos, after, none⟩ f G K := fun K => hst G0 K
    simp only [Y, mrun, mrunAt, hw, hm, hx]
theorem Y_range (T : TypeId) (x : Operand) : Y P rs K s ops md (⟨d, .range T x, T0, pos, aft, none⟩ :: l) f G = Yg P rs K s ops md d l f G (Instr.range T (ev f x)) := yg _ _ _ _ _ _ _ _ _ _ _ rfl rfl rfl (fun _ => rfl) (fun _ _ => rfl) (fun _ _ => rfl) (fun _ _ => rfl)
theorem Y_next (x : Operand) (b : Bool) : Y P rs K s ops md (⟨d, .next x b, T0, pos, aft, none⟩ :: l) f G = Yg P rs K s ops md d l f G (Instr.next (ev f x) b T0) := yg _ _ _ _ _ _ _ _ _ _ _ rfl rfl rfl (fun _ => rfl) (fun _ _ => rfl) (fun _ _ => rfl) (fun _ _ => rfl)
theorem Y_entry (x : Operand) : Y P rs K s ops md (⟨d, .entry x, T0, pos, aft, none⟩ :: l) f G = Yg P rs K s ops md d l f G (Instr.entry (ev f x)) := yg _ _ _ _ _ _ _ _ _ _ _ rfl rfl rfl (fun _ => rfl) (fun _ _ => rfl) (fun _ _ => rfl) (fun _ _ => rfl)
theorem Y_makeSlice (T : TypeId) (x y : Operand) : Y P rs K s ops md (⟨d, .makeSlice T x y, T0, pos, aft, none⟩ :: l) f G = Yms P rs K s ops md d l f G T (ev f x) (ev f y) := by cases md <;> rfl
theorem Y_typeAssert (x : Operand) (t a : TypeId) : Y P rs K s ops md (⟨d, .typeAssert x t a false, T0, pos, aft, none⟩ :: l) f G = Yp P rs K s ops md d l f G (pvTA P t a (ev f x)) := by cases md <;> rfl
theorem Y_append (args : List Operand) (ts : List TypeId) : Y P rs K s ops md (⟨d, .call ⟨.builtin .append, args.toArray, ts.toArray⟩, T0, pos, aft, none⟩ :: l) f G = Yg P rs K s ops md d l f G (Builtin.append_ ts.toArray T0 (args.map (ev f)).toArray) := yg _ _ _ _ _ _ _ _ _ _ _ rfl rfl (by rw [← List.map_toArray]; rfl) (fun _ => rfl) (fun _ _ => rfl) (fun _ _ => rfl) (fun _ _ => rfl)
theorem Y_copy (args : List Operand) (ts : List TypeId) : Y P rs K s ops md (⟨d, .call ⟨.builtin .copy, args.toArray, ts.toArray⟩, T0, pos, aft, none⟩ :: l) f G = Yg P rs K s ops md d l f G (Builtin.copy_ ts.toArray T0 (args.map (ev f)).toArray) := yg _ _ _ _ _ _ _ _ _ _ _ rfl rfl (by rw [← List.map_toArray]; rfl) (fun _ => rfl) (fun _ _ => rfl) (fun _ _ => rfl) (fun _ _ => rfl)
theorem Y_delete (args : List Operand) (ts : List TypeId) : Y P rs K s ops md (⟨d, .call ⟨.builtin .delete, args.toArray, ts.toArray⟩, T0, pos, aft, none⟩ :: l) f G = Yg P rs K s ops md d l f G (Builtin.delete_ ts.toArray T0 (args.map (ev f)).toArray) := yg _ _ _ _ _ _ _ _ _ _ _ rfl rfl (by rw [← List.map_toArray]; rfl) (fun _ => rfl) (fun _ _ => rfl) (fun _ _ => rfl) (fun _ _ => rfl)
theorem Y_makeFunc (fn : Fn) (a b : Array Operand) : Y P rs K s ops md (⟨d, .makeFunc fn a b, T0, pos, aft, none⟩ :: l) f G = Y P rs K s ops md l (put f d (.func fn (a.map (ev f)) (b.map (ev f)))) G := by cases md <;> rfl
theorem Y_makeMap (T : TypeId) : Y P rs K s ops md (⟨d, .makeMap T none, T0, pos, aft, none⟩ :: l) f G = Ynew P rs K s ops md d l f G (.map #[] 0) (fun r => .map (some r)) := by cases md <;> rfl
theorem Y_fieldAddr (S : TypeId) (x : Operand) (i : Nat) : Y P rs K s ops md (⟨d, .fieldAddr S x i, T0, pos, aft, none⟩ :: l) f G = Yp P rs K s ops md d l f G (pvFA P S (ev f x) i) := by cases md <;> rfl
theorem Y_field (S : TypeId) (x : Operand) (i : Nat) : Y P rs K s ops md (⟨d, .field S x i, T0, pos, aft, none⟩ :: l) f G = Yp P rs K s ops md d l f G (pvField P S (ev f x) i) := by cases md <;> rfl
theorem Y_indexAddr (T : TypeId) (x i : Operand) : Y P rs K s ops md (⟨d, .indexAddr T x i, T0, pos, aft, none⟩ :: l) f G = Yp P rs K s ops md d l f G (pvIA P T (ev f x) (ev f i)) := by cases md <;> rfl
theorem Y_index (T : TypeId) (x i : Operand) : Y P rs K s ops md (⟨d, .index T x i, T0, pos, aft, none⟩ :: l) f G = Yp P rs K s ops md d l f G (pvI P T (ev f x) (ev f i)) := by cases md <;> rfl
theorem Y_extract (t : Operand) (i : Nat) : Y P rs K s ops md (⟨d, .extract t i, T0, pos, aft, none⟩ :: l) f G = Yp P rs K s ops md d l f G (pvX (ev f t) i) := by cases md <;> rfl
theorem Y_call (g : Operand) (args : List Operand) (ats : Array TypeId) : Y P rs K s ops md (⟨d, .call ⟨.value g, args.toArray, ats⟩, T0, pos, aft, none⟩ :: l) f G = Yfv P rs K s ops md d l f G (ev f g) (args.map (ev f)) := by cases md <;> rfl
theorem Y_len (args : List Operand) (ts : List TypeId) : Y P rs K s ops md (⟨d, .call ⟨.builtin .len, args.toArray, ts.toArray⟩, T0, pos, aft, none⟩ :: l) f G = Yp P rs K s ops md d l f G (pvLen P ts (args.map (ev f)) G) := by cases md <;> rfl
theorem Y_cap (args : List Operand) (ts : List TypeId) : Y P rs K s ops md (⟨d, .call ⟨.builtin .cap, args.toArray, ts.toArray⟩, T0, pos, aft, none⟩ :: l) f G = Yp P rs K s ops md d l f G (pvB1 P .cap ts (args.map (ev f))) := by cases md <;> rfl
theorem Y_max (args : List Operand) (ts : List TypeId) : Y P rs K s ops md (⟨d, .call ⟨.builtin .max, args.toArray, ts.toArray⟩, T0, pos, aft, none⟩ :: l) f G = Yp P rs K s ops md d l f G (pvB1 P .max ts (args.map (ev f))) := by cases md <;> rfl
theorem Y_min (args : List Operand) (ts : List TypeId) : Y P rs K s ops md (⟨d, .call ⟨.builtin .min, args.toArray, ts.toArray⟩, T0, pos, aft, none⟩ :: l) f G = Yp P rs K s ops md d l f G (pvB1 P .min ts (args.map (ev f))) := by cases md <;> rfl
theorem Yp_some (v : Value) : Yp P rs K s ops md d l f G (some v) = Y P rs K s ops md l (put f d v) G := by cases md <;> rfl
theorem Yp_ite (p : Prop) [Decidable p] (v : Value) : Yp P rs K s ops md d l f G (if p then some v else none) = vguard p (Y P rs K s ops md l (put f d v) G) := by
  unfold Yp vguard; by_cases h : p <;> simp [h]
theorem Yw_tt (op : Oper) : Yw P rs K s ops md d l f G (some true) true op = Y P rs K s ops md (op :: l) f G := nr rfl
theorem Yw_ff (op : Oper) : Yw P rs K s ops md d l f G (some false) false op = Y P rs K s ops md (op :: l) f G := nr rfl
theorem Yw_tf (op : Oper) : Yw P rs K s ops md d l f G (some true) false op = Y P rs K s ops md l (put f d undef) G := nr rfl
theorem Yw_ft (op : Oper) : Yw P rs K s ops md d l f G (some false) true op = Y P rs K s ops md l (put f d undef) G := nr rfl
theorem Yw_nt (op : Oper) : Yw P rs K s ops md d l f G none true op = Y P rs K s ops md l (put f d undef) G := nr rfl
theorem Yw_nf (op : Oper) : Yw P rs K s ops md d l f G none false op = Y P rs K s ops md l (put f d undef) G := nr rfl
theorem Yfv_fn (n : Nat) (a b : List Value) (args : List Value) : Yfv P rs K s ops md d l f G (.func (.func n) a.toArray b.toArray) args = vguard (Enters P n) (Ycall P rs K s ops md d l f G n (a ++ args ++ b)) := by
  cases md <;> simp [Yfv, Ycall, vcall, mcall, vguard]
theorem Yst_ptr {T : TypeId} {a : Addr} {v : Value} {vs : List Value} (hs : 0 < tySz P T ∧ vs.length = tySz P T) (hv : v.cells = vs.toArray) (h1 : vs.all oneV = true) : Yst P rs K s ops md d l f G T (.pointer (some a)) v = Yset P rs K s ops md d l f G a vs := by
  unfold Yst Yset vstore; simp [hv, hs, h1]
def YsO (P : Program) (rs : Array ResultVar) (K : Value → GH → Prop) (s : List It) (ops : List Oper) (md : Option GH) (d : Option Nat) (l : List Oper) (f : Fr) (G : GH) (r off : Nat) (vs : List Value) (x : Option (Obj × Bool)) : Prop :=
  match x with
  | some (.cells c e fr, t) => (fr = (0, 0) ∧ t = true) ∧ off + vs.length ≤ c.size ∧ Y P rs K s ops md l (put f d undef) (G.put r (.cells (setCells c off vs) e (0, 0), true))
  | _ => False
theorem Yset_at (r off : Nat) (vs : List Value) : Yset P rs K s ops md d l f G ⟨r, off, none⟩ vs = YsO P rs K s ops md d l f G r off vs (G r) := by
  unfold Yset vset YsO
  apply propext
  constructor
  · rintro ⟨_, c, e, h1, h2, h3⟩
    dsimp only at h1 h2 h3
    rw [h1]; exact ⟨⟨rfl, rfl⟩, h2, h3⟩
  · intro h
    split at h
    · rename_i c e fr t hG
      obtain ⟨⟨rfl, rfl⟩, h2, h3⟩ := h
      exact ⟨rfl, c, e, hG, h2, h3⟩
    · exact h.elim
def setL (cs : List Value) (off : Nat) : List Value → List Value
  | [] => cs
  | v :: vs => setL (cs.set off v) (off + 1) vs
theorem setCells_L (vs : List Value) : ∀ (cs : List Value) (off : Nat), setCells cs.toArray off vs = (setL cs off vs).toArray := by
  induction vs with
  | nil => intro cs off; rfl
  | cons v vs ih => intro cs off; simp only [setCells, setL, List.setIfInBounds_toArray]; exact ih _ _
theorem YsO_some (r off : Nat) (vs cs : List Value) (e : TypeId) : YsO P rs K s ops md d l f G r off vs (some (.cells cs.toArray e (0, 0), true)) = vguard (off + vs.length ≤ cs.length) (Y P rs K s ops md l (put f d undef) (G.put r (.cells (setL cs off vs).toArray e (0, 0), true))) := by
  unfold YsO vguard
  simp only [and_self, true_and, List.size_toArray, setCells_L]
theorem Yal_eq {T : TypeId} {z : Value} (h : tyZ P T = some z) : Yal P rs K s ops md d l f G T = Ynew' P rs K s ops md d l f G (.cells z.cells T (0, 0)) (fun r => .pointer (some ⟨r, 0, none⟩)) := by
  cases md <;> simp [Yal, Ynew', valloc, h]
theorem vguard_true (q : Prop) : vguard True q = q := by simp [vguard]
theorem vguard_intro {p q : Prop} (hp : p) (hq : q) : vguard p q := ⟨hp, hq⟩
theorem Ycall_intro {rs : Array ResultVar} {K : Value → GH → Prop} {s : List It} {ops : List Oper} {md : Option GH} {d : Option Nat} {l : List Oper} {f : Fr} {G : GH} {n : Nat} {args : List Value} {M : Value → GH → Prop}
    (h : GCalls P n args.toArray G M) (hk : ∀ v G', M v G' → Y P rs K s ops none l (put f d v) G') : Ycall P rs K s ops none d l f G n args := h.mono hk
theorem Ycall_introD {rs : Array ResultVar} {K : Value → GH → Prop} {s : List It} {ops : List Oper} {G0 : GH} {d : Option Nat} {l : List Oper} {f : Fr} {G : GH} {n : Nat} {args : List Value} {M : Value → GH → Prop}
    (h : ∀ G1, G.le G1 → GCalls P n args.toArray G1 (fun u G2 => G1.le G2 ∧ M u G2)) (hm : ∀ u G1 G2, M u G1 → G1.le G2 → M u G2) (hk : ∀ u G2, G.le G2 → M u G2 → Y P rs K s ops (some G0) l (put f d u) G2) : Ycall P rs K s ops (some G0) d l f G n args := ⟨M, h, hm, hk⟩
theorem Ycall_val {rs : Array ResultVar} {K : Value → GH → Prop} {s : List It} {ops : List Oper} {md : Option GH} {d : Option Nat} {l : List Oper} {f : Fr} {G : GH} {n : Nat} {args : List Value} (r : Value)
    (h : ∀ G1, G.le G1 → GCalls P n args.toArray G1 (fun u G2 => G1.le G2 ∧ u = r)) (hk : ∀ G2, G.le G2 → Y P rs K s ops md l (put f d r) G2) : Ycall P rs K s ops md d l f G n args := by
  cases md with
  | none => exact (h G (fun _ _ h => h)).mono fun v G' ⟨hl, e⟩ => by subst e; exact hk G' hl
  | some G0 => exact ⟨_, h, fun u _ _ h _ => h, fun u G2 hl e => by subst e; exact hk G2 hl⟩
theorem Ynew_intro {rs : Array ResultVar} {K : Value → GH → Prop} {s : List It} {ops : List Oper} {md : Option GH} {d : Option Nat} {l : List Oper} {f : Fr} {G : GH} {o : Obj} {mk : Nat → Value}
    (h : ∀ r G', G r = none → G.le G' → G' r = some (o, true) → Y P rs K s ops md l (put f d (mk r)) G') : Ynew P rs K s ops md d l f G o mk := by
  intro r hr
  refine h r _ hr ?_ ?_
  · intro c o' hc; unfold GH.put; split
    · rename_i e; subst e; rw [hr] at hc; cases hc
    · exact hc
  · unfold GH.put; simp
theorem Ynew'_intro {rs : Array ResultVar} {K : Value → GH → Prop} {s : List It} {ops : List Oper} {d : Option Nat} {l : List Oper} {f : Fr} {G : GH} {o : Obj} {mk : Nat → Value}
    (h : ∀ r G', G r = none → G.le G' → G' r = some (o, true) → Y P rs K s ops none l (put f d (mk r)) G') : Ynew' P rs K s ops none d l f G o mk := Ynew_intro (md := none) h
theorem Yless {rs : Array ResultVar} {K : Value → GH → Prop} {s : List It} {ops : List Oper} {md : Option GH} {l : List Oper} {f : Fr} {G G1 : GH} (hl : G1.le G) (h : Y P rs K s ops md l f G1) : Y P rs K s ops md l f G := by
  cases md with
  | none => exact gops_le (fun f A B => Qof_up rs K s _ f A B) _ _ _ _ hl.sub h
  | some G0 => exact mrun_le (fun f A B hab => Qof_up rs K s _ f A B hab.sub) _ _ _ _ hl h
theorem Ysub {rs : Array ResultVar} {K : Value → GH → Prop} {s : List It} {ops : List Oper} {l : List Oper} {f : Fr} {G G1 : GH} (hl : G1.sub G) (h : Y P rs K s ops none l f G1) : Y P rs K s ops none l f G := gops_le (fun f A B => Qof_up rs K s _ f A B) _ _ _ _ hl h
theorem Ynew'_introD {rs : Array ResultVar} {K : Value → GH → Prop} {s : List It} {ops : List Oper} {G0 : GH} {d : Option Nat} {l : List Oper} {f : Fr} {G : GH} {o : Obj} {mk : Nat → Value}
    (h : ∀ r G', G0 r = none → G.le G' → G' r = some (o, true) → Y P rs K s ops (some (G0.put r (o, true))) l (put f d (mk r)) G') : Ynew' P rs K s ops (some G0) d l f G o mk := fun r G' a b c => h r G' b a c
theorem Yn1 {rs : Array ResultVar} {K : Value → GH → Prop} {s : List It} {ops : List Oper} {md : Option GH} {d : Option Nat} {l : List Oper} {f : Fr} {G : GH} {o : Obj} {mk : Nat → Value}
    (h : ∀ r, G r = none → Y P rs K s ops md l (put f d (mk r)) (G.put r (o, true))) : Ynew P rs K s ops md d l f G o mk := fun r hr => h r hr
theorem Yn2 {rs : Array ResultVar} {K : Value → GH → Prop} {s : List It} {ops : List Oper} {d : Option Nat} {l : List Oper} {f : Fr} {G : GH} {o : Obj} {mk : Nat → Value}
    (h : ∀ r, G r = none → Y P rs K s ops none l (put f d (mk r)) (G.put r (o, true))) : Ynew' P rs K s ops none d l f G o mk := fun r hr => h r hr
theorem Yn3 {rs : Array ResultVar} {K : Value → GH → Prop} {s : List It} {ops : List Oper} {G0 : GH} {d : Option Nat} {l : List Oper} {f : Fr} {G : GH} {o : Obj} {mk : Nat → Value}
    (h : ∀ r, G0 r = none → (∀ x, G r = some x → x = (o, true)) → Y P rs K s ops (some (G0.put r (o, true))) l (put f d (mk r)) (G.put r (o, true))) : Ynew' P rs K s ops (some G0) d l f G o mk := by
  intro r G2 hl h0 h2
  refine Yless ?_ (h r h0 fun x hx => ?_)
  · intro c x hc; unfold GH.put at hc; split at hc
    · rename_i e; subst e; cases hc; exact h2
    · exact hl _ _ hc
  · have := hl _ _ hx; rw [h2] at this; cases this; rfl
def Pure (P : Program) (G : GH) (n : Nat) (args : List Value) (r : Value) : Prop := ∀ G1, G.le G1 → GCalls P n args.toArray G1 (fun u G2 => G1.le G2 ∧ u = r)
theorem Ycp {rs : Array ResultVar} {K : Value → GH → Prop} {s : List It} {ops : List Oper} {md : Option GH} {d : Option Nat} {l : List Oper} {f : Fr} {G : GH} {n : Nat} {args : List Value} {r : Value}
    (h : Pure P G n args r) (hk : Y P rs K s ops md l (put f d r) G) : Ycall P rs K s ops md d l f G n args := by
  cases md with
  | none => exact (h G (fun _ _ h => h)).mono fun v G' ⟨hl, e⟩ => by subst e; exact Yless hl hk
  | some G0 => exact ⟨_, h, fun u _ _ h _ => h, fun u G2 hl e => by subst e; exact Yless hl hk⟩
def Gives (P : Program) (G : GH) (n : Nat) (args : List Value) (R : Value → GH → Prop) : Prop := ∀ G1, G.le G1 → GCalls P n args.toArray G1 (fun u G2 => G1.le G2 ∧ R u G2)
theorem Ycg {rs : Array ResultVar} {K : Value → GH → Prop} {s : List It} {ops : List Oper} {md : Option GH} {d : Option Nat} {l : List Oper} {f : Fr} {G : GH} {n : Nat} {args : List Value} {R : Value → GH → Prop}
    (h : Gives P G n args R) (hR : UpR GH.le R) (hk : ∀ u G2, G.le G2 → R u G2 → Y P rs K s ops md l (put f d u) G2) : Ycall P rs K s ops md d l f G n args := by
  cases md with
  | none => exact (h G (fun _ _ h => h)).mono fun v G' ⟨hl, e⟩ => hk v G' hl e
  | some G0 => exact ⟨R, h, fun u _ _ hr hl => hR _ _ _ hl hr, hk⟩
theorem Xdraw_intro {rs : Array ResultVar} {K : Value → GH → Prop} {s : List It} {f : Fr} {G : GH} {id : Nat} {l : List Oper} (order : List Nat) (hm : P.follows .mixedOrders = true) (ha : allocAll P l.toArray = true) (hok : drawOk l.toArray order = true)
    (h : Y P rs K s l (some G) (order.filterMap (l[·]?)) f G) : Xdraw P rs K s id l f G := by
  refine draw_sound (id := id) order hm ha hok ?_
  have e : opsOf l.toArray order = order.filterMap (l[·]?) := by unfold opsOf; congr 1; funext i; simp
  rw [e]; exact h
theorem Yset_intro {rs : Array ResultVar} {K : Value → GH → Prop} {s : List It} {ops : List Oper} {md : Option GH} {d : Option Nat} {l : List Oper} {f : Fr} {G : GH} {a : Addr} {vs : List Value} (G0 : GH) {c : Array Value} {e : TypeId}
    (hsp : a.spot = none) (hG : G a.block = some (.cells c e (0, 0), true)) (hl : a.off + vs.length ≤ c.size)
    (h0 : G0 a.block = none) (hle : G0.le G) (h : ∀ G', G0.le G' → G' a.block = some (.cells (setCells c a.off vs) e (0, 0), true) → (∀ b, b ≠ a.block → G' b = G b) → Y P rs K s ops md l (put f d undef) G') : Yset P rs K s ops md d l f G a vs := by
  refine ⟨hsp, c, e, hG, hl, h _ ?_ ?_ ?_⟩
  · intro b o hb
    unfold GH.put; split
    · rename_i e; subst e; rw [h0] at hb; cases hb
    · exact hle _ _ hb
  · unfold GH.put; simp
  · intro b hb; unfold GH.put; rw [if_neg hb]
end
theorem ev_tmp (f : Fr) (t : Nat) : ev f (.tmp t) = f t := nr rfl
theorem ev_const (f : Fr) (v : Value) : ev f (.const v) = v := nr rfl
theorem ev_func (f : Fr) (n : Nat) : ev f (.func n) = .func (.func n) #[] #[] := nr rfl
theorem put_at (f : Fr) (d : Nat) (v : Value) (t : Nat) : put f (some d) v t = if t = d then v else f t := nr rfl
theorem put_none (f : Fr) (v : Value) : put f none v = f := nr rfl
theorem fr0_zero (v : Value) (l : List Value) : fr0 (v :: l) 0 = v := nr rfl
theorem fr0_succ (v : Value) (l : List Value) (t : Nat) : fr0 (v :: l) (t + 1) = fr0 l t := nr rfl
theorem fr0_1 (a v : Value) (l : List Value) : fr0 (a :: v :: l) 1 = v := nr rfl
theorem fr0_2 (a b v : Value) (l : List Value) : fr0 (a :: b :: v :: l) 2 = v := nr rfl
theorem fr0_3 (a b c v : Value) (l : List Value) : fr0 (a :: b :: c :: v :: l) 3 = v := nr rfl
theorem fr0_4 (a b c d v : Value) (l : List Value) : fr0 (a :: b :: c :: d :: v :: l) 4 = v := nr rfl
theorem fr0_5 (a b c d e v : Value) (l : List Value) : fr0 (a :: b :: c :: d :: e :: v :: l) 5 = v := nr rfl
theorem fr0_6 (a b c d e g v : Value) (l : List Value) : fr0 (a :: b :: c :: d :: e :: g :: v :: l) 6 = v := nr rfl
theorem fr0_7 (a b c d e g h v : Value) (l : List Value) : fr0 (a :: b :: c :: d :: e :: g :: h :: v :: l) 7 = v := nr rfl
theorem add_mk (b o n : Nat) : (⟨b, o, none⟩ : Addr).add n = ⟨b, o + n, none⟩ := by
  unfold Addr.add; split
  · rename_i h; subst h; rfl
  · rfl
def Krp (P : Program) (K : Value → GH → Prop) (f : Fr) (G : GH) (l : List ResultVar) (acc : List Value) (o : Option Value) : Prop := match o with | some v => Kr P K f G l (acc ++ [v]) | none => False
theorem Kr_nil (K : Value → GH → Prop) (f : Fr) (G : GH) (acc : List Value) : Kr P (Kup K) f G [] acc = Kup K (tupleOf acc) G := nr rfl
theorem Kup_intro {K : Value → GH → Prop} {v : Value} {G : GH} (G1 : GH) (hl : G1.sub G) (h : K v G1) : Kup K v G := ⟨G1, hl, h⟩
theorem Kr_tmp (K : Value → GH → Prop) (f : Fr) (G : GH) (t : Nat) (l : List ResultVar) (acc : List Value) : Kr P K f G (.tmp t :: l) acc = Kr P K f G l (acc ++ [f t]) := nr rfl
theorem Kr_cell (K : Value → GH → Prop) (f : Fr) (G : GH) (a : Nat) (T : TypeId) (l : List ResultVar) (acc : List Value) : Kr P K f G (.cell a T :: l) acc = Krp P K f G l acc (pvLoad P T (f a) G) := by
  rw [Kr]; rfl
theorem Krp_some (K : Value → GH → Prop) (f : Fr) (G : GH) (l : List ResultVar) (acc : List Value) (v : Value) : Krp P K f G l acc (some v) = Kr P K f G l (acc ++ [v]) := nr rfl
theorem tupleOf0 : tupleOf [] = .tuple #[] := nr rfl
theorem tupleOf1 (v : Value) : tupleOf [v] = v := nr rfl
theorem tupleOf2 (a b : Value) : tupleOf [a, b] = .tuple #[a, b] := nr rfl
theorem tupleOf3 (a b c : Value) : tupleOf [a, b, c] = .tuple #[a, b, c] := nr rfl
theorem tupleOf4 (a b c d : Value) : tupleOf [a, b, c, d] = .tuple #[a, b, c, d] := nr rfl
def boolOf : Value → Option Bool
  | .bool b => some b
  | _ => none
def yieldAt (o : Option (Option Nat)) (f : Fr) : Option Bool := match o with | some (some d) => boolOf (f d) | _ => none
theorem gyield_at (ops : List Oper) (f : Fr) (j : Nat) : gyield ops.toArray f j = yieldAt ((ops[j]?).map (·.dst)) f := by
  unfold gyield yieldAt
  simp only [List.getElem?_toArray]
  cases ops[j]? with
  | none => rfl
  | some o =>
    simp only [Option.bind_some, Option.map_some]
    cases o.dst with
    | none => rfl
    | some d => simp only []; cases f d <;> rfl
theorem yieldAt_some (d : Nat) (f : Fr) : yieldAt (some (some d)) f = boolOf (f d) := nr rfl
theorem boolOf_bool (b : Bool) : boolOf (.bool b) = some b := nr rfl
theorem boolOf_undef : boolOf undef = none := nr rfl
theorem enter {n : Nat} {fn : Func} {c : Code} {args : List Value} {G : GH} {K : Value → GH → Prop} (hf : P.funcs[n]? = some fn) (m : Nat) (rs : Array ResultVar) (hb : fn.body = some c) (hm : fn.ntmps = m) (hrs : fn.results = rs)
    (hok : codeOk m c = true) (ha : decide (args.length ≤ m) = true)
    (h : X P rs K [] c (fr0 args) G) : GCalls P n args.toArray G K := by
  refine GCalls.up ?_
  subst hm hrs
  intro w0 w hw
  have hs : Sim fn.ntmps (fr0 args) { tmps := args.toArray ++ Array.replicate (fn.ntmps - args.toArray.size) undef, defers := [] } := fr0_sim (of_decide_eq_true ha)
  refine calls_of_wp hf hb (wp_mono (awp_sound c hok _ (by intro f G; simp [Qof, fin]) _ _ _ _ h hs hw) ?_)
  rintro e a' w' ⟨f, G, hs', hw', hk, ho⟩
  cases e with
  | normal => exact ⟨hs'.defers, let ⟨v, h1, h2⟩ := resv_run hs' hw' hk; ⟨v, h1, _, _, rfl, hw', h2⟩⟩
  | ret => exact ⟨hs'.defers, let ⟨v, h1, h2⟩ := resv_run hs' hw' hk; ⟨v, h1, _, _, rfl, hw', h2⟩⟩
  | _ => exact hk.elim
end Go.GL
