/- A part of a proof: Walk and Length are as specified for all roads and arcs (statement DrivesWalkedUptoCardSaid) -/
import Derived.Orders
import Derived.Test.YtjhfhacdjmokaaaGreatDoorDwGlE
set_option linter.unusedSimpArgs false
set_option linter.unusedVariables false
set_option linter.unusedSectionVars false
namespace Go.GL
open Go Go.RowKit
variable {P : Program}
theorem vpure_mono {o : Option Value} {G : GH} {K K' : Value → GH → Prop} (h : vpure o G K) (hk : ∀ v, K v G → K' v G) : vpure o G K' := by
  cases o with
  | none => exact h.elim
  | some v => exact hk _ h
noncomputable def pvOf (P : Program) (o : Oper) (f : Fr) (G : GH) : Option Value :=
  match o.op with
  | .move x | .assign x => some (ev f x)
  | .pick c a b => pvPick (ev f c) (ev f a) (ev f b)
  | .load T p => pvLoad P T (ev f p) G
  | .lookup T m k ok => pvLook P T (ev f m) (ev f k) ok G
  | .nilCheck x => pvNil (ev f x)
  | .binOp op T x y _ => pvB P op T x y (ev f x) (ev f y)
  | .unOp op _ x => pvU P op (ev f x)
  | .convert s d x => pvConv P s d (ev f x)
  | .makeInterface T x => pvIface P T (ev f x)
  | .slice T x l h m => pvSlice P T (ev f x) (l.map (ev f)) (h.map (ev f)) (m.map (ev f))
  | .build T ps => pvBuild P T (ps.toList.map fun p => (p.1, ev f p.2))
  | .makeFunc fn first captured => some (.func fn (first.map (ev f)) (captured.map (ev f)))
  | .fieldAddr S x i => pvFA P S (ev f x) i
  | .field S x i => pvField P S (ev f x) i
  | .indexAddr T x i => pvIA P T (ev f x) (ev f i)
  | .index T x i => pvI P T (ev f x) (ev f i)
  | .extract t i => pvX (ev f t) i
  | .typeAssert x T A ok => if ok = true then none else pvTA P T A (ev f x)
  | .call c =>
    match c.callee with
    | .builtin .len => pvLen P c.argTypes.toList (c.args.toList.map (ev f)) G
    | .builtin .cap => pvB1 P .cap c.argTypes.toList (c.args.toList.map (ev f))
    | .builtin .max => pvB1 P .max c.argTypes.toList (c.args.toList.map (ev f))
    | .builtin .min => pvB1 P .min c.argTypes.toList (c.args.toList.map (ev f))
    | _ => none
  | _ => none
def cls (o : Oper) : Nat :=
  match o.op with
  | .move _ | .assign _ | .pick _ _ _ | .nilCheck _ | .binOp .. | .unOp .. | .convert .. | .makeInterface .. | .slice .. | .build .. | .makeFunc .. | .fieldAddr .. | .field .. | .indexAddr .. | .index .. | .extract .. => 0
  | .typeAssert _ _ _ ok => if ok = true then 4 else 0
  | .load .. | .lookup .. => 1
  | .alloc _ | .box _ _ => 3
  | .buildSlice _ _ ps => if ps.size = 1 then 3 else 4
  | .call c =>
    match c.callee with
    | .value _ => 2
    | .builtin .len => 1
    | .builtin .cap | .builtin .max | .builtin .min => 0
    | _ => 4
  | .select .. => 5
  | _ => 4
theorem vop_pv {o : Oper} (h : cls o ≤ 1) (f : Fr) (G : GH) (K : Value → GH → Prop) : vop P o f G K = vpure (pvOf P o f G) G K := by
  obtain ⟨dst, op, T0, pos, after, guard⟩ := o
  unfold vop pvOf
  unfold cls at h
  cases op <;> dsimp only at h ⊢ <;> first | rfl | omega | (split at h <;> omega) | skip
  case typeAssert x T A ok =>
    cases ok with
    | true => exact absurd h (by decide)
    | false => rfl
  rename_i c
  obtain ⟨callee, args, ats⟩ := c
  cases callee with
  | value g => dsimp only at h; omega
  | invoke r m => dsimp only at h; omega
  | builtin b => cases b <;> dsimp only at h ⊢ <;> first | rfl | omega
theorem pvOf_congr {o : Oper} (h5 : cls o ≠ 5) {f f' : Fr} (h : ∀ x ∈ o.op.operands, ev f x = ev f' x) (G : GH) : pvOf P o f G = pvOf P o f' G := by
  obtain ⟨dst, op, T0, pos, after, guard⟩ := o
  unfold pvOf
  cases op <;> simp only [Op.operands] at h <;> dsimp only
  case build t ps =>
    congr 1
    exact List.map_congr_left fun p hp => by rw [h p.2 (by simp; exact ⟨p.1, by simpa using hp⟩)]
  case makeFunc fn first captured =>
    rw [Array.map_congr_left (xs := first) fun x hx => h x (by simp [hx]), Array.map_congr_left (xs := captured) fun x hx => h x (by simp [hx])]
  case call c =>
    obtain ⟨callee, args, ats⟩ := c
    have ha : args.toList.map (ev f) = args.toList.map (ev f') := List.map_congr_left fun x hx => h x (by simp [Call.operands]; exact .inr (by simpa using hx))
    cases callee with
    | builtin b => cases b <;> simp only [ha]
    | _ => rfl
  case slice t x lo hi mx => cases lo <;> cases hi <;> cases mx <;> simp_all
  all_goals (first | rfl | (simp_all; done))
theorem GH.le.cell' {G G' : GH} (h : G.le G') {a : Addr} {v : Value} (hc : gcell G a = some v) : gcell G' a = some v := by
  unfold gcell at *
  cases hG : G a.block with
  | none => simp [hG] at hc
  | some x => rw [h _ _ hG]; rw [hG] at hc; exact hc
theorem GH.le.cells' {G G' : GH} (h : G.le G') {a : Addr} {n : Nat} {cs : List Value} (hc : gcells G a n = some cs) : gcells G' a n = some cs := by
  unfold gcells at *
  cases hG : G a.block with
  | none => simp [hG] at hc
  | some x => rw [h _ _ hG]; rw [hG] at hc; exact hc
theorem pvOf_le {o : Oper} {f : Fr} {G G' : GH} (h : G.le G') {v : Value} (hv : pvOf P o f G = some v) : pvOf P o f G' = some v := by
  obtain ⟨dst, op, T0, pos, after, guard⟩ := o
  unfold pvOf at *
  cases op <;> dsimp only at hv ⊢ <;> try exact hv
  case call c =>
    obtain ⟨callee, args, ats⟩ := c
    cases callee with
    | builtin b =>
      cases b <;> dsimp only at hv ⊢ <;> try exact hv
      unfold pvLen at *
      split
      · rename_i r hvs
        simp only [hvs] at hv
        split
        · rename_i t hts
          simp only [hts] at hv
          split at hv
          · rename_i hT hG
            simp only [hT, h _ _ hG]; exact hv
          · cases hv
        · simp_all
      · rename_i hne
        split at hv
        · rename_i r hvs; exact absurd hvs (hne r)
        · exact hv
    | _ => exact hv
  case lookup T m k ok => exact pvLook_le h hv
  rename_i T p
  unfold pvLoad at *
  split at hv
  case h_2 => cases hv
  rename_i a ha
  split at hv
  · split at hv
    case isFalse => cases hv
    rename_i hz
    simp only [Option.map_eq_some_iff] at hv
    obtain ⟨cs, hcs, rfl⟩ := hv
    rw [if_pos hz, h.cells' hcs]; rfl
  · exact h.cell' hv
  · cases hv
theorem pvOf_cls0 {o : Oper} (h : cls o = 0) (f : Fr) (G G' : GH) : pvOf P o f G = pvOf P o f G' := by
  obtain ⟨dst, op, T0, pos, after, guard⟩ := o
  unfold pvOf
  unfold cls at h
  cases op <;> dsimp only at h ⊢ <;> try omega
  rename_i c
  obtain ⟨callee, args, ats⟩ := c
  cases callee with
  | builtin b => cases b <;> dsimp only at h ⊢; omega
  | _ => rfl
theorem vop_congr {o : Oper} (h5 : cls o ≠ 5) {f f' : Fr} (h : ∀ x ∈ o.op.operands, ev f x = ev f' x) (G : GH) (K : Value → GH → Prop) : vop P o f G K = vop P o f' G K := by
  have hgop : gop P o f G K = gop P o f' G K := by
    unfold gop
    rw [execOp_congr o (fun cs b e => h5 (by unfold cls; rw [e])) h]
  obtain ⟨dst, op, T0, pos, after, guard⟩ := o
  by_cases h1 : cls ⟨dst, op, T0, pos, after, guard⟩ ≤ 1
  · rw [vop_pv h1, vop_pv h1, pvOf_congr h5 h]
  unfold cls at h1 h5
  unfold vop
  cases op <;> dsimp only at h1 h5 ⊢ <;> try (first | exact hgop | (exfalso; omega))
  case buildSlice T n ps =>
    congr 1
    congr 1
    exact List.map_congr_left fun p hp => by rw [h p.2 (by simp [Op.operands]; exact ⟨p.1, by simpa using hp⟩)]
  case store T p x => rw [h x (by simp [Op.operands]), h p (by simp [Op.operands])]
  case makeSlice T x y => rw [h x (by simp [Op.operands]), h y (by simp [Op.operands])]
  case makeMap t r => cases r <;> first | rfl | exact hgop
  case typeAssert x T A ok =>
    cases ok with
    | true => exact hgop
    | false => exact absurd (by decide) h1
  case mapEntry t m k => rw [h m (by simp [Op.operands]), h k (by simp [Op.operands])]
  case entryStore t m b x => rw [h m (by simp [Op.operands]), h b (by simp [Op.operands]), h x (by simp [Op.operands])]
  case mapUpdate t m k x => rw [h m (by simp [Op.operands]), h k (by simp [Op.operands]), h x (by simp [Op.operands])]
  case call c =>
    obtain ⟨callee, args, ats⟩ := c
    have ha : args.toList.map (ev f) = args.toList.map (ev f') := List.map_congr_left fun x hx => h x (by simp [Op.operands, Call.operands]; exact .inr (by simpa using hx))
    cases callee with
    | value g => dsimp only; rw [h g (by simp [Op.operands, Call.operands]), ha]
    | invoke r m => exact hgop
    | builtin b => cases b <;> dsimp only at h1 ⊢ <;> first | exact hgop | omega
def mcall (P : Program) (fv : Value) (args : List Value) (G : GH) (K : Value → GH → Prop) : Prop :=
  match fv with
  | .func (.func n) first captured => Enters P n ∧ ∃ M : Value → GH → Prop, (∀ G1, G.le G1 → GCalls P n (first ++ args.toArray ++ captured) G1 (fun u G2 => G1.le G2 ∧ M u G2)) ∧
      (∀ u G1 G2, M u G1 → G1.le G2 → M u G2) ∧ ∀ u G2, G.le G2 → M u G2 → K u G2
  | _ => False
def mnew (G0 : GH) (o : Obj) (G : GH) (K : Nat → GH → Prop) : Prop := ∀ r G2, G.le G2 → G0 r = none → G2 r = some (o, true) → K r G2
def allocOk (P : Program) (o : Oper) : Bool := match o.op with | .alloc T => (tyZ P T).isSome | _ => true
def bsObj (c : Option (List Value × TypeId)) : Obj := .cells (c.getD ([], 0)).1.toArray (c.getD ([], 0)).2 (0, 0)
def bsFine (P : Program) (o : Oper) (f : Fr) : Prop := match o.op with | .buildSlice T n ps => ps.size = 1 → (bsCells P T n (ps.toList.map fun p => (p.1, ev f p.2))).isSome = true | _ => True
def mop (P : Program) (G0 : GH) (o : Oper) (f : Fr) (G : GH) (K : Value → GH → Prop) : Prop :=
  match o.op with
  | .alloc T => mnew G0 (.cells ((tyZ P T).getD undef).cells T (0, 0)) G (fun r G' => K (.pointer (some ⟨r, 0, none⟩)) G')
  | .box T x => mnew G0 (.cells (ev f x).cells T (0, 0)) G (fun r G' => K (.pointer (some ⟨r, 0, none⟩)) G')
  | .buildSlice T n ps => if ps.size = 1 then mnew G0 (bsObj (bsCells P T n (ps.toList.map fun p => (p.1, ev f p.2)))) G (fun r G' => K (.slice (some ⟨r, 0, none⟩) n n) G') else vop P o f G K
  | .call c =>
    match c.callee with
    | .value g => mcall P (ev f g) (c.args.toList.map (ev f)) G K
    | _ => vop P o f G K
  | _ => vop P o f G K
noncomputable def mnx (P : Program) (G0 : GH) (o : Oper) (f : Fr) (v : Value) : GH :=
  match o.op with
  | .alloc T => match v with | .pointer (some a) => G0.put a.block (.cells ((tyZ P T).getD undef).cells T (0, 0), true) | _ => G0
  | .box T x => match v with | .pointer (some a) => G0.put a.block (.cells (ev f x).cells T (0, 0), true) | _ => G0
  | .buildSlice T n ps => if ps.size = 1 then (match v with | .slice (some a) _ _ => G0.put a.block (bsObj (bsCells P T n (ps.toList.map fun p => (p.1, ev f p.2))), true) | _ => G0) else G0
  | _ => G0
theorem mnx_id {G0 : GH} {o : Oper} (h : cls o ≠ 3) (f : Fr) (v : Value) : mnx P G0 o f v = G0 := by
  obtain ⟨dst, op, T0, pos, after, guard⟩ := o
  unfold cls at h
  unfold mnx
  cases op <;> dsimp only at h ⊢ <;> try (exact absurd rfl h)
  case buildSlice T n ps =>
    split
    · rename_i h1; rw [if_pos h1] at h; exact absurd rfl h
    · rfl
theorem mnx_undef {G0 : GH} {o : Oper} (f : Fr) : mnx P G0 o f undef = G0 := by
  obtain ⟨dst, op, T0, pos, after, guard⟩ := o
  unfold mnx undef
  cases op <;> dsimp only
  split <;> rfl
theorem mnx_congr {G0 : GH} {o : Oper} {f f' : Fr} (h : ∀ x ∈ o.op.operands, ev f x = ev f' x) (v : Value) : mnx P G0 o f v = mnx P G0 o f' v := by
  obtain ⟨dst, op, T0, pos, after, guard⟩ := o
  unfold mnx
  cases op <;> dsimp only
  case box T x => rw [h x (by simp [Op.operands])]
  case buildSlice T n ps =>
    have ha : ps.toList.map (fun p => (p.1, ev f p.2)) = ps.toList.map (fun p => (p.1, ev f' p.2)) := List.map_congr_left fun p hp => by rw [h p.2 (by simp [Op.operands]; exact ⟨p.1, by simpa using hp⟩)]
    rw [ha]
end Go.GL
