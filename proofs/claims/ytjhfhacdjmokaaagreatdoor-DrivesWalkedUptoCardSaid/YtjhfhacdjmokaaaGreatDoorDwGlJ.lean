/- A part of a proof: Walk and Length are as specified for all roads and arcs (statement DrivesWalkedUptoCardSaid) -/
import Derived.Test.YtjhfhacdjmokaaaGreatDoorDwGlI
set_option linter.unusedSimpArgs false
set_option linter.unusedVariables false
set_option linter.unusedSectionVars false
namespace Go.GL
open Go Go.RowKit
variable {P : Program}
theorem le_refl' (G : GH) : G.le G := fun _ _ h => h
theorem le_trans' {G G1 G2 : GH} (h : G.le G1) (h' : G1.le G2) : G.le G2 := fun b o hb => h' b o (h b o hb)
theorem le_put' {G : GH} {b : Nat} (h : G b = none) (o : Obj × Bool) : G.le (G.put b o) := by
  intro c o' hc; unfold GH.put; split
  · rename_i e; subst e; rw [h] at hc; cases hc
  · exact hc
theorem le_none {G G' : GH} (h : G.le G') {b : Nat} (hb : G' b = none) : G b = none := by
  cases hG : G b with
  | none => rfl
  | some o => rw [h _ _ hG] at hb; cases hb
theorem mnew_vnew {G0 G : GH} (h0 : G0.le G) {o : Obj} {K : Nat → GH → Prop} (h : mnew G0 o G K) : vnew o G K := by
  intro r hr
  exact h r _ (le_put' hr _) (le_none h0 hr) (by unfold GH.put; simp)
theorem mcall_vcall {fv : Value} {args : List Value} {G : GH} {K : Value → GH → Prop} (h : mcall P fv args G K) : vcall P fv args G K := by
  unfold mcall at h; unfold vcall
  split at h
  · rename_i n a b
    obtain ⟨he, M, hc, hm, hk⟩ := h
    exact ⟨he, (hc G (le_refl' G)).mono fun v G' ⟨hl, hM⟩ => hk v G' hl hM⟩
  · exact h.elim
theorem mop_vop {G0 G : GH} {o : Oper} (h0 : cls o = 3 → G0.le G) (ha : allocOk P o = true) {f : Fr} (hb : bsFine P o f) {K : Value → GH → Prop} (h : mop P G0 o f G K) : vop P o f G K := by
  obtain ⟨dst, op, T0, pos, after, guard⟩ := o
  unfold mop at h
  cases op <;> dsimp only at h <;> try exact h
  case alloc T =>
    unfold allocOk at ha
    unfold vop valloc
    dsimp only at ha ⊢
    cases hz : tyZ P T with
    | none => simp [hz] at ha
    | some z => rw [hz] at h; exact mnew_vnew (h0 rfl) h
  case box T x => exact mnew_vnew (h0 rfl) h
  case buildSlice T n ps =>
    split at h
    · rename_i h1
      have hc := hb h1
      unfold vop vbs
      dsimp only at hc ⊢
      cases hbs : bsCells P T n (ps.toList.map fun p => (p.1, ev f p.2)) with
      | none => rw [hbs] at hc; cases hc
      | some c => rw [hbs] at h; exact mnew_vnew (h0 (if_pos h1)) h
    · exact h
  case call c =>
    obtain ⟨callee, args, ats⟩ := c
    cases callee with
    | value g => exact mcall_vcall h
    | _ => exact h
theorem mop_pv {G0 : GH} {o : Oper} (h : cls o ≤ 1) (f : Fr) (G : GH) (K : Value → GH → Prop) : mop P G0 o f G K = vpure (pvOf P o f G) G K := by
  rw [← vop_pv h]
  obtain ⟨dst, op, T0, pos, after, guard⟩ := o
  unfold mop
  unfold cls at h
  cases op <;> dsimp only at h ⊢ <;> try (first | omega | (split at h <;> omega) | (split at h; omega; rw [if_neg (by assumption)]; done))
  rename_i c
  obtain ⟨callee, args, ats⟩ := c
  cases callee <;> dsimp only at h ⊢; omega
theorem mop_eff {G0 : GH} {o : Oper} (h : cls o = 4) (f : Fr) (G : GH) (K : Value → GH → Prop) : mop P G0 o f G K = vop P o f G K := by
  obtain ⟨dst, op, T0, pos, after, guard⟩ := o
  unfold mop
  unfold cls at h
  cases op <;> dsimp only at h ⊢ <;> try (first | omega | (split at h <;> omega) | (split at h; omega; rw [if_neg (by assumption)]; done))
  rename_i c
  obtain ⟨callee, args, ats⟩ := c
  cases callee <;> dsimp only at h ⊢; omega
theorem mop_congr {G0 : GH} {o : Oper} (h5 : cls o ≠ 5) {f f' : Fr} (h : ∀ x ∈ o.op.operands, ev f x = ev f' x) (G : GH) (K : Value → GH → Prop) : mop P G0 o f G K = mop P G0 o f' G K := by
  have hv := vop_congr (P := P) h5 h G K
  obtain ⟨dst, op, T0, pos, after, guard⟩ := o
  unfold mop
  cases op <;> dsimp only <;> try exact hv
  all_goals (try (first | rfl | (rw [h _ (by simp [Op.operands])]; done)))
  case buildSlice T n ps =>
    have ha : ps.toList.map (fun p => (p.1, ev f p.2)) = ps.toList.map (fun p => (p.1, ev f' p.2)) := List.map_congr_left fun p hp => by rw [h p.2 (by simp [Op.operands]; exact ⟨p.1, by simpa using hp⟩)]
    rw [ha, hv]
  case call c =>
    obtain ⟨callee, args, ats⟩ := c
    have ha : args.toList.map (ev f) = args.toList.map (ev f') := List.map_congr_left fun x hx => h x (by simp [Op.operands, Call.operands]; exact .inr (by simpa using hx))
    cases callee with
    | value g => dsimp only; rw [h g (by simp [Op.operands, Call.operands]), ha]
    | _ => exact hv
theorem gwp_mono' {α : Type} (s : Sem α) {G : GH} {K K' : α → GH → Prop} (h : gwp P s G K) (hk : ∀ a G', K a G' → K' a G') : gwp P s G K' := gwp_mono s G K K' h hk
theorem vnew_mono {o : Obj} {G : GH} {K K' : Nat → GH → Prop} (h : vnew o G K) (hk : ∀ r G', K r G' → K' r G') : vnew o G K' := fun r hr => hk _ _ (h r hr)
theorem gop_mono {o : Oper} {f : Fr} {G : GH} {K K' : Value → GH → Prop} (h : gop P o f G K) (hk : ∀ v G', K v G' → K' v G') : gop P o f G K' := by
  unfold gop at *
  refine gwp_mono' _ h ?_
  intro nx G' hn
  cases nx <;> first | exact hk _ _ hn | exact GCalls.mono hn hk | exact hn.elim
theorem vop_mono {o : Oper} {f : Fr} {G : GH} {K K' : Value → GH → Prop} (h : vop P o f G K) (hk : ∀ v G', K v G' → K' v G') : vop P o f G K' := by
  obtain ⟨dst, op, T0, pos, after, guard⟩ := o
  unfold vop at *
  cases op <;> dsimp only at h ⊢ <;> try (first | exact hk _ _ h | exact vpure_mono h (fun v hv => hk _ _ hv) | exact gop_mono h hk)
  case alloc T =>
    unfold valloc at *
    split at h
    · exact vnew_mono h fun _ _ => hk _ _
    · exact h.elim
  case box T x => exact vnew_mono h fun _ _ => hk _ _
  case buildSlice T n ps =>
    unfold vbs at *
    split at h
    · exact vnew_mono h fun _ _ => hk _ _
    · exact h.elim
  case store T p x =>
    unfold vstore vset at *
    split at h
    · obtain ⟨h1, h2, c, e, h3, h4, h5⟩ := h
      exact ⟨h1, h2, c, e, h3, h4, hk _ _ h5⟩
    · exact h.elim
  case makeSlice T x y =>
    unfold vms at *
    split at h
    · exact vnew_mono h fun _ _ => hk _ _
    · exact h.elim
  case makeMap t r =>
    cases r with
    | none => exact vnew_mono h fun _ _ => hk _ _
    | some r => exact gop_mono h hk
  case typeAssert x T A ok =>
    cases ok with
    | true => exact gop_mono h hk
    | false => exact vpure_mono h (fun v hv => hk _ _ hv)
  case mapEntry T m k => exact vment_mono h hk
  case entryStore T m b x => exact ventry_mono h fun G' hG' => hk _ _ hG'
  case mapUpdate T m k x => exact vmupd_mono h fun G' hG' => hk _ _ hG'
  case call c =>
    obtain ⟨callee, args, ats⟩ := c
    cases callee with
    | value g =>
      dsimp only at h ⊢
      unfold vcall at *
      split at h
      · exact ⟨h.1, h.2.mono hk⟩
      · exact h.elim
    | invoke r m => exact gop_mono h hk
    | builtin b => cases b <;> dsimp only at h ⊢ <;> first | exact vpure_mono h (fun v hv => hk _ _ hv) | exact gop_mono h hk
def soleLoad (ops : Array Oper) (j : Nat) : Option (Nat × TypeId) :=
  match ops[j]? with
  | some ⟨some t, .load T _, _, _, _, none⟩ => if (List.range ops.size).all (fun k => k == j || !((ops[k]?).bind (·.dst) == some t)) then some (t, T) else none
  | some ⟨some t, .build T _, _, _, _, none⟩ => if (List.range ops.size).all (fun k => k == j || !((ops[k]?).bind (·.dst) == some t)) then some (t, T) else none
  | _ => none
def bsSyn (ops : Array Oper) (o : Oper) : Bool :=
  match o.op with
  | .buildSlice _ _ ps =>
    match ps.toList with
    | [(_, .tmp t)] => (List.range ops.size).any fun j => match soleLoad ops j with | some (t', _) => t' == t | none => false
    | _ => true
  | _ => true
def bsAsk (P : Program) (ops : Array Oper) (o : Oper) (f : Fr) : Prop :=
  match o.op with
  | .buildSlice T n ps => ps.size = 1 → bsSyn ops o = true ∨ (bsCells P T n (ps.toList.map fun p => (p.1, ev f p.2))).isSome = true
  | _ => True
def mstep (P : Program) (ops : Array Oper) (G0 : GH) (o : Oper) (f : Fr) (G : GH) (K : Value → GH → Prop) : Prop :=
  if Region.wanted o (gyield ops f) then (match o.op with | .buildSlice _ _ _ => bsAsk P ops o f ∧ mop P G0 o f G K | _ => mop P G0 o f G K) else K undef G
theorem mstep_iff {ops : Array Oper} {G0 : GH} {o : Oper} {f : Fr} {G : GH} {K : Value → GH → Prop} : mstep P ops G0 o f G K ↔ if Region.wanted o (gyield ops f) then bsAsk P ops o f ∧ mop P G0 o f G K else K undef G := by
  unfold mstep
  by_cases hw : Region.wanted o (gyield ops f) = true
  · simp only [if_pos hw]
    split
    · exact Iff.rfl
    · rename_i hne
      unfold bsAsk
      split
      · rename_i ho; exact absurd ho (hne _ _ _)
      · simp
  · simp only [if_neg hw]
def mrunAt (P : Program) (ops : Array Oper) (K : Fr → GH → Prop) : List Oper → GH → Fr → GH → Prop
  | [], _, f, G => K f G
  | o :: l, G0, f, G => mstep P ops G0 o f G (fun v G' => mrunAt P ops K l (mnx P G0 o f v) (put f o.dst v) G')
abbrev mrun (P : Program) (ops : Array Oper) (G0 : GH) (K : Fr → GH → Prop) (l : List Oper) (f : Fr) (G : GH) : Prop := mrunAt P ops K l G0 f G
theorem putLe {A G G2 : GH} {r : Nat} {o : Obj × Bool} (hA : A.le G) (a : G.le G2) (c : G2 r = some o) : (A.put r o).le G2 := by
  intro b x hb; unfold GH.put at hb; split at hb
  · rename_i e; subst e; cases hb; exact c
  · exact a _ _ (hA _ _ hb)
theorem put_nn {A : GH} {r r' : Nat} {o : Obj × Bool} : (A.put r o) r' = none ↔ r' ≠ r ∧ A r' = none := by
  unfold GH.put; split
  · rename_i e; simp [e]
  · rename_i e; simp [e]
theorem put_swap {A : GH} {r r' : Nat} {o o' : Obj × Bool} (h : r' ≠ r) : (A.put r o).put r' o' = (A.put r' o').put r o := by
  funext c; unfold GH.put
  by_cases e1 : c = r' <;> by_cases e2 : c = r
  · exact absurd (e1.symm.trans e2) h
  · simp [e1, e2]
    intro h3; exact absurd h3 h
  · simp [e1, e2]
    intro h3; exact absurd h3.symm h
  · simp [e1, e2]
theorem mop_mono {G0 : GH} {o : Oper} {f : Fr} {G : GH} {K K' : Value → GH → Prop} (h : mop P G0 o f G K) (hk : ∀ v G', K v G' → K' v G') : mop P G0 o f G K' := by
  obtain ⟨dst, op, T0, pos, after, guard⟩ := o
  unfold mop at *
  cases op <;> dsimp only at h ⊢ <;> try exact vop_mono h hk
  case alloc T => exact fun r G2 a b c => hk _ _ (h r G2 a b c)
  case box T x => exact fun r G2 a b c => hk _ _ (h r G2 a b c)
  case buildSlice T n ps =>
    split at h
    · rename_i h1; rw [if_pos h1]; exact fun r G2 a b c => hk _ _ (h r G2 a b c)
    · rename_i h1; rw [if_neg h1]; exact vop_mono h hk
  case call c =>
    obtain ⟨callee, args, ats⟩ := c
    cases callee with
    | value g =>
      unfold mcall at *
      dsimp only at h ⊢
      split at h
      · obtain ⟨he, M, h1, h2, h3⟩ := h
        exact ⟨he, M, h1, h2, fun u G2 a b => hk _ _ (h3 u G2 a b)⟩
      · exact h.elim
    | _ => exact vop_mono h hk
theorem mop_le {G0 : GH} {o : Oper} (hc : cls o ≤ 3) {f : Fr} {G : GH} {K K' : Value → GH → Prop} (h : mop P G0 o f G K) (hk : ∀ v G', G.le G' → (∀ A : GH, A.le G → (mnx P A o f v).le G') → K v G' → K' v G') : mop P G0 o f G K' := by
  by_cases h1 : cls o ≤ 1
  · rw [mop_pv h1] at *
    exact vpure_mono h fun v hv => hk v G (le_refl' G) (fun A hA => by rw [mnx_id (by omega)]; exact hA) hv
  obtain ⟨dst, op, T0, pos, after, guard⟩ := o
  unfold cls at hc h1
  unfold mop at *
  cases op <;> dsimp only at h hc h1 ⊢ <;> try omega
  case typeAssert x T A ok => cases ok <;> simp at hc h1
  case alloc T => exact fun r G2 a b c => hk _ _ a (fun A hA => putLe hA a c) (h r G2 a b c)
  case box T x => exact fun r G2 a b c => hk _ _ a (fun A hA => putLe hA a c) (h r G2 a b c)
  case buildSlice T n ps =>
    split at h
    · rename_i h1; rw [if_pos h1]; exact fun r G2 a b c => hk _ _ a (fun A hA => by unfold mnx; dsimp only; rw [if_pos h1]; exact putLe hA a c) (h r G2 a b c)
    · rename_i h1; rw [if_neg h1] at hc; omega
  case call c =>
    obtain ⟨callee, args, ats⟩ := c
    cases callee with
    | value g =>
      unfold mcall at *
      dsimp only at h ⊢
      split at h
      · obtain ⟨he, M, h1, h2, h3⟩ := h
        exact ⟨he, M, h1, h2, fun u G2 a b => hk _ _ a (fun A hA => le_trans' hA a) (h3 u G2 a b)⟩
      · exact h.elim
    | invoke r m => dsimp only at hc; omega
    | builtin b => cases b <;> dsimp only at hc h1 <;> omega
theorem mop_new {o : Oper} (hc : cls o = 3) (f : Fr) : ∃ (ob : Obj) (mk : Nat → Value), (∀ G0 G K, mop P G0 o f G K ↔ mnew G0 ob G (fun r G' => K (mk r) G')) ∧ ∀ G0 r, mnx P G0 o f (mk r) = G0.put r (ob, true) := by
  obtain ⟨dst, op, T0, pos, after, guard⟩ := o
  unfold cls at hc
  unfold mop mnx
  cases op <;> dsimp only at hc ⊢ <;> try omega
  case typeAssert x T A ok => cases ok <;> simp at hc
  case alloc T => exact ⟨_, fun r => .pointer (some ⟨r, 0, none⟩), fun G0 G K => Iff.rfl, fun _ _ => rfl⟩
  case box T x => exact ⟨_, fun r => .pointer (some ⟨r, 0, none⟩), fun G0 G K => Iff.rfl, fun _ _ => rfl⟩
  case buildSlice T n ps =>
    split at hc
    · rename_i h1; exact ⟨bsObj (bsCells P T n (ps.toList.map fun p => (p.1, ev f p.2))), fun r => .slice (some ⟨r, 0, none⟩) n n, fun G0 G K => by rw [if_pos h1], fun G0 r => by rw [if_pos h1]⟩
    · omega
  case call c =>
    obtain ⟨callee, args, ats⟩ := c
    cases callee with
    | value g => dsimp only at hc; omega
    | invoke r m => dsimp only at hc; omega
    | builtin b => cases b <;> dsimp only at hc <;> omega
theorem mop_call {o : Oper} (hc : cls o = 2) (f : Fr) : ∃ fv args, ∀ G0 G K, mop P G0 o f G K = mcall P fv args G K := by
  obtain ⟨dst, op, T0, pos, after, guard⟩ := o
  unfold cls at hc
  unfold mop
  cases op <;> dsimp only at hc ⊢ <;> try (first | omega | (split at hc <;> omega))
  rename_i c
  obtain ⟨callee, args, ats⟩ := c
  cases callee with
  | value g => exact ⟨_, _, fun G0 G K => rfl⟩
  | invoke r m => dsimp only at hc; omega
  | builtin b => cases b <;> dsimp only at hc <;> omega
def lookMent (x y : Oper) : Bool :=
  match x.op, y.op with
  | .lookup T (.tmp m) (.tmp k) ok, .mapEntry T' (.tmp m') (.tmp k') => !ok && T == T' && m == m' && k == k'
  | _, _ => false
def okPair (x y : Oper) : Bool := (decide (cls x ≤ 1) && decide (cls y ≤ 3)) || (cls x == 0 && cls y == 4) || (cls x == 2 && cls y == 3) || (cls x == 3 && cls y == 3)
theorem mop_swap {G0 : GH} {x y : Oper} (h : okPair x y = true) {fx fy : Fr} {G : GH} {K : Value → Value → GH → GH → Prop}
    (hh : mop P G0 x fx G (fun v G1 => mop P (mnx P G0 x fx v) y fy G1 (fun u G2 => K v u G2 (mnx P (mnx P G0 x fx v) y fy u)))) :
    mop P G0 y fy G (fun u G1 => mop P (mnx P G0 y fy u) x fx G1 (fun v G2 => K v u G2 (mnx P (mnx P G0 y fy u) x fx v))) := by
  unfold okPair at h
  simp only [Bool.or_eq_true, Bool.and_eq_true, decide_eq_true_eq, beq_iff_eq] at h
  rcases h with ((⟨hx, hy⟩ | ⟨hx, hy⟩) | ⟨hx, hy⟩) | ⟨hx, hy⟩
  · have e : ∀ A v, mnx P A x fx v = A := fun A v => mnx_id (by omega) fx v
    simp only [e] at hh ⊢
    rw [mop_pv hx] at hh
    cases hv : pvOf P x fx G with
    | none => rw [hv] at hh; exact hh.elim
    | some v =>
      rw [hv] at hh
      replace hh : mop P G0 y fy G (fun u G2 => K v u G2 (mnx P G0 y fy u)) := hh
      refine mop_le hy hh fun u G1 hl _ hk => ?_
      rw [mop_pv hx, pvOf_le hl hv]
      exact hk
  · have e : ∀ A v, mnx P A x fx v = A := fun A v => mnx_id (by omega) fx v
    simp only [e] at hh ⊢
    rw [mop_pv (by omega)] at hh
    cases hv : pvOf P x fx G with
    | none => rw [hv] at hh; exact hh.elim
    | some v =>
      rw [hv] at hh
      replace hh : mop P G0 y fy G (fun u G2 => K v u G2 (mnx P G0 y fy u)) := hh
      refine mop_mono hh fun u G1 hk => ?_
      rw [mop_pv (by omega), pvOf_cls0 hx fx G1 G, hv]
      exact hk
  · have e : ∀ A v, mnx P A x fx v = A := fun A v => mnx_id (by omega) fx v
    simp only [e] at hh ⊢
    obtain ⟨fv, args, hc⟩ := mop_call (P := P) hx fx
    rw [hc] at hh
    obtain ⟨ob, mk, hn, _⟩ := mop_new (P := P) hy fy
    rw [hn]
    intro r G1 hl h0 hr
    rw [hc]
    unfold mcall at *
    split at hh
    · obtain ⟨he, M, h1, h2, h3⟩ := hh
      refine ⟨he, M, fun G2 hG2 => h1 G2 (le_trans' hl hG2), h2, fun u G2 hG2 hM => ?_⟩
      have := h3 u G2 (le_trans' hl hG2) hM
      dsimp only at this
      rw [hn] at this
      exact this r G2 (le_refl' _) h0 (hG2 _ _ hr)
    · exact hh.elim
  · obtain ⟨ob, mk, hn, hm⟩ := mop_new (P := P) hx fx
    obtain ⟨ob', mk', hn', hm'⟩ := mop_new (P := P) hy fy
    rw [hn']
    intro r' G1 hl h0 hr'
    rw [hn]
    intro r G2 hl2 h02 hr
    rw [hm'] at h02 ⊢
    obtain ⟨hne, h02⟩ := put_nn.1 h02
    rw [hn] at hh
    have := hh r G2 (le_trans' hl hl2) h02 hr
    dsimp only at this
    rw [hn', hm] at this
    have := this r' G2 (le_refl' _) (put_nn.2 ⟨Ne.symm hne, h0⟩) (hl2 _ _ hr')
    dsimp only at this
    rw [hm'] at this
    rw [hm, put_swap hne]
    exact this
def looks (ops : Array Oper) (o : Oper) : List Nat := o.looksAt ops
theorem ev_put {f : Fr} {d : Option Nat} {v : Value} {x : Operand} (h : ∀ k, d = some k → x ≠ .tmp k) : ev (put f d v) x = ev f x := by
  cases d with
  | none => rfl
  | some k =>
    cases x with
    | tmp t =>
      have : t ≠ k := fun e => h k rfl (by rw [e])
      simp [ev, put, this]
    | _ => rfl
theorem put_comm (f : Fr) {x y : Option Nat} (v u : Value) (h : ∀ d, x = some d → y ≠ some d) : put (put f x v) y u = put (put f y u) x v := by
  cases x with
  | none => rfl
  | some a =>
    cases y with
    | none => rfl
    | some b =>
      have hne : b ≠ a := fun e => h a rfl (by rw [e])
      funext t
      simp only [put]
      by_cases h1 : t = b
      · subst h1; simp [hne]
      · simp [h1]
theorem operands_look {ops : Array Oper} {o : Oper} {k : Nat} (h : k ∉ o.looksAt ops) : ∀ x ∈ o.op.operands, x ≠ .tmp k := by
  intro x hx e
  subst e
  exact h (List.mem_append_left _ (List.mem_filterMap.2 ⟨.tmp k, by simpa using hx, rfl⟩))
theorem gyield_put {ops : Array Oper} {o : Oper} {f : Fr} {d : Option Nat} {v : Value} (h : ∀ k, d = some k → k ∉ o.looksAt ops) : Region.wanted o (gyield ops (put f d v)) = Region.wanted o (gyield ops f) := by
  cases d with
  | none => rfl
  | some k =>
    unfold Region.wanted
    cases hg : o.guard with
    | none => rfl
    | some gw =>
      obtain ⟨g, want⟩ := gw
      have hy : gyield ops (put f (some k) v) g = gyield ops f g := by
        unfold gyield
        cases ht : (ops[g]?).bind (·.dst) with
        | none => rfl
        | some t =>
          have hne : t ≠ k := fun e => h k rfl (by subst e; simp [Oper.looksAt, hg, ht])
          simp [put, hne]
      simp only [hy]
theorem mstep_put {ops : Array Oper} {G0 : GH} {o : Oper} (h5 : cls o ≠ 5) {f : Fr} {d : Option Nat} {v : Value} (h : ∀ k, d = some k → k ∉ o.looksAt ops) (G : GH) (K : Value → GH → Prop) :
    mstep P ops G0 o (put f d v) G K = mstep P ops G0 o f G K := by
  have hev : ∀ x ∈ o.op.operands, ev (put f d v) x = ev f x := fun x hx => ev_put fun k hk => operands_look (h k hk) x hx
  have ha : bsAsk P ops o (put f d v) ↔ bsAsk P ops o f := by
    unfold bsAsk
    split
    · rename_i T n ps ho
      have e : ps.toList.map (fun p => (p.1, ev (put f d v) p.2)) = ps.toList.map (fun p => (p.1, ev f p.2)) := List.map_congr_left fun p hp => by rw [hev p.2 (by rw [ho]; simp [Op.operands]; exact ⟨p.1, by simpa using hp⟩)]
      rw [e]
    · exact Iff.rfl
  apply propext
  rw [mstep_iff, mstep_iff, gyield_put h, mop_congr h5 hev, ha]
theorem mnx_put {ops : Array Oper} {G0 : GH} {o : Oper} {f : Fr} {d : Option Nat} {v : Value} (h : ∀ k, d = some k → k ∉ o.looksAt ops) (u : Value) : mnx P G0 o (put f d v) u = mnx P G0 o f u :=
  mnx_congr (fun x hx => ev_put fun k hk => operands_look (h k hk) x hx) u
theorem mstep_mono {ops : Array Oper} {G0 : GH} {o : Oper} {f : Fr} {G : GH} {K K' : Value → GH → Prop} (h : mstep P ops G0 o f G K) (hk : ∀ v G', K v G' → K' v G') : mstep P ops G0 o f G K' := by
  rw [mstep_iff] at *
  split
  · rename_i hw; rw [if_pos hw] at h; exact ⟨h.1, mop_mono h.2 hk⟩
  · rename_i hw; rw [if_neg hw] at h; exact hk _ _ h
theorem lookMent_cls {x y : Oper} (h3 : cls x = 3) : lookMent x y = false := by
  unfold lookMent
  split
  · rename_i T m k ok T' m' k' hx hy
    unfold cls at h3; rw [hx] at h3; simp at h3
  · rfl
theorem lookMent_swap {G0 : GH} {x y : Oper} (h : lookMent x y = true) {f : Fr} {G : GH} {K : Value → Value → GH → Prop}
    (hh : mop P G0 x f G (fun v G1 => mop P G0 y f G1 (fun u G2 => K v u G2))) : mop P G0 y f G (fun u G1 => mop P G0 x f G1 (fun v G2 => K v u G2)) := by
  unfold lookMent at h
  split at h
  case h_2 => cases h
  rename_i T m k ok T' m' k' hx hy
  simp only [Bool.and_eq_true, Bool.not_eq_true', beq_iff_eq] at h
  obtain ⟨⟨⟨rfl, rfl⟩, rfl⟩, rfl⟩ := h
  have ex : ∀ G K, mop P G0 x f G K = vpure (pvLook P T (f m) (f k) false G) G K := by
    intro G K; unfold mop vop; rw [hx]; rfl
  have ey : ∀ G K, mop P G0 y f G K = vment P T (f m) (f k) G K := by
    intro G K; unfold mop vop; rw [hy]; rfl
  rw [ex] at hh
  rw [ey]
  cases hv : pvLook P T (f m) (f k) false G with
  | none => rw [hv] at hh; exact hh.elim
  | some v =>
    rw [hv] at hh
    simp only [vpure] at hh
    rw [ey] at hh
    refine vment_mono (look_ment hv hh) fun u G1 h => ?_
    rw [ex, h.1]; exact h.2
theorem lookMent_cls' {x y : Oper} (h : lookMent x y = true) : cls x ≠ 3 ∧ cls y ≠ 3 := by
  unfold lookMent at h
  split at h
  · rename_i T m k ok T' m' k' hx hy
    unfold cls; rw [hx, hy]; simp
  · cases h
theorem mstep_swap {ops : Array Oper} {G0 : GH} {x y : Oper} (h : ((okPair x y || lookMent x y) && (bsSyn ops y || decide (cls x ≤ 1))) = true) {f : Fr} {G : GH} {K : Value → Value → GH → GH → Prop}
    (hh : mstep P ops G0 x f G (fun v G1 => mstep P ops (mnx P G0 x f v) y f G1 (fun u G2 => K v u G2 (mnx P (mnx P G0 x f v) y f u)))) :
    mstep P ops G0 y f G (fun u G1 => mstep P ops (mnx P G0 y f u) x f G1 (fun v G2 => K v u G2 (mnx P (mnx P G0 y f u) x f v))) := by
  obtain ⟨h, hsyn⟩ := Bool.and_eq_true _ _ ▸ h
  simp only [mstep_iff] at *
  by_cases hx : Region.wanted x (gyield ops f)
  · simp only [if_pos hx] at *
    by_cases hy : Region.wanted y (gyield ops f)
    · simp only [if_pos hy] at *
      obtain ⟨hax, hh⟩ := hh
      have hay : bsAsk P ops y f := by
        rcases Bool.or_eq_true _ _ ▸ hsyn with q | q
        · unfold bsAsk
          split
          · exact fun _ => .inl q
          · trivial
        · have q : cls x ≤ 1 := by simpa using q
          rw [mop_pv q] at hh
          cases hv : pvOf P x f G with
          | none => rw [hv] at hh; exact hh.elim
          | some v => rw [hv] at hh; exact hh.1
      refine ⟨hay, ?_⟩
      have hh2 : mop P G0 x f G (fun v G1 => mop P (mnx P G0 x f v) y f G1 (fun u G2 => K v u G2 (mnx P (mnx P G0 x f v) y f u))) := mop_mono hh fun v G1 q => q.2
      have hh3 : mop P G0 y f G (fun u G1 => mop P (mnx P G0 y f u) x f G1 (fun v G2 => K v u G2 (mnx P (mnx P G0 y f u) x f v))) := by
        rcases Bool.or_eq_true _ _ ▸ h with h | h
        · exact mop_swap h hh2
        · obtain ⟨e1, e2⟩ := lookMent_cls' h
          simp only [mnx_id e1, mnx_id e2] at hh2 ⊢
          exact lookMent_swap (K := fun v u G2 => K v u G2 G0) h hh2
      exact mop_mono hh3 fun u G1 q => ⟨hax, q⟩
    · simp only [if_neg hy, mnx_undef] at *
      exact hh
  · simp only [if_neg hx, mnx_undef] at *
    exact hh
def free (ops : Array Oper) (x y : Oper) : Bool := ((okPair x y || lookMent x y) && (bsSyn ops y || decide (cls x ≤ 1))) && x.apart ops y && (cls x != 5) && (cls y != 5)
theorem mrun_mono {ops : Array Oper} {K K' : Fr → GH → Prop} (hk : ∀ f G, K f G → K' f G) : ∀ (l : List Oper) {G0 : GH} (f : Fr) (G : GH), mrun P ops G0 K l f G → mrun P ops G0 K' l f G
  | [], _, f, G, h => hk _ _ h
  | o :: l, _, f, G, h => mstep_mono h fun v G' h' => mrun_mono hk l _ _ h'
theorem mrun_pull {ops : Array Oper} {K : Fr → GH → Prop} {y : Oper} {B : List Oper} : ∀ (A : List Oper), (∀ a ∈ A, free ops a y = true) → ∀ {G0 : GH} (f : Fr) (G : GH), mrun P ops G0 K (A ++ y :: B) f G →
    mstep P ops G0 y f G (fun u G' => mrun P ops (mnx P G0 y f u) K (A ++ B) (put f y.dst u) G')
  | [], _, _, f, G, h => h
  | a :: A, hA, G0, f, G, h => by
    have ha := hA a (by simp)
    unfold free at ha
    simp only [Bool.and_eq_true, bne_iff_ne, ne_eq] at ha
    obtain ⟨⟨⟨hp, hap⟩, h5⟩, h5'⟩ := ha
    obtain ⟨s1, s2, s3⟩ := Oper.apart_spec hap
    have h1 : mstep P ops G0 a f G (fun v G1 => mstep P ops (mnx P G0 a f v) y f G1 (fun u G2 => mrun P ops (mnx P (mnx P G0 a f v) y f u) K (A ++ B) (put (put f a.dst v) y.dst u) G2)) := by
      refine mstep_mono h fun v G1 h' => ?_
      have := mrun_pull A (fun x hx => hA x (by simp [hx])) _ _ h'
      rw [mstep_put h5' s1] at this
      simp only [mnx_put (ops := ops) s1] at this
      exact this
    refine mstep_mono (mstep_swap (K := fun v u G2 A0 => mrun P ops A0 K (A ++ B) (put (put f a.dst v) y.dst u) G2) (by simpa using hp) h1) fun u G1 h' => ?_
    show mstep P ops (mnx P G0 y f u) a (put f y.dst u) G1 _
    rw [mstep_put h5 s3]
    refine mstep_mono h' fun v G2 h2 => ?_
    rw [mnx_put (ops := ops) s3, put_comm f u v (fun d hd e => s2 d e hd)]
    exact h2
def edgeB (ops : Array Oper) (i j : Nat) : Bool := ((ops[j]?).map fun o => o.after.any fun e => Region.binds .any e && e.on == i).getD false
inductive Reach (ops : Array Oper) : Nat → Nat → Prop where
  | edge {i j : Nat} (h : edgeB ops i j = true) : Reach ops i j
  | step {i k j : Nat} (h : Reach ops i k) (h' : edgeB ops k j = true) : Reach ops i j
def edgesMask (acc : Array Nat) (es : List Edge) : Nat := es.foldl (fun s e => if Region.binds .any e then s ||| (2 ^ e.on ||| acc.getD e.on 0) else s) 0
def masks : List Oper → Array Nat → Array Nat
  | [], acc => acc
  | o :: l, acc => masks l (acc.push (edgesMask acc o.after.toList))
theorem edgesMask_bit {acc : Array Nat} {i : Nat} : ∀ (es : List Edge) (s : Nat), (es.foldl (fun s e => if Region.binds .any e then s ||| (2 ^ e.on ||| acc.getD e.on 0) else s) s).testBit i = true →
    s.testBit i = true ∨ ∃ e ∈ es, Region.binds .any e = true ∧ (e.on = i ∨ (acc.getD e.on 0).testBit i = true)
  | [], s, h => .inl h
  | e :: es, s, h => by
    rcases edgesMask_bit es _ h with h | ⟨e', he, hb, h⟩
    · dsimp only at h
      split at h
      · rename_i hb
        simp only [Nat.testBit_or, Bool.or_eq_true] at h
        rcases h with h | h | h
        · exact .inl h
        · rw [Nat.testBit_two_pow] at h
          exact .inr ⟨e, by simp, hb, .inl (by simpa using h)⟩
        · exact .inr ⟨e, by simp, hb, .inr h⟩
      · exact .inl h
    · exact .inr ⟨e', by simp [he], hb, h⟩
theorem masks_sound {ops : Array Oper} : ∀ (l : List Oper) (acc : Array Nat), (∀ k, k < l.length → ops[acc.size + k]? = l[k]?) → (∀ i j, (acc.getD j 0).testBit i = true → Reach ops i j) →
    ∀ i j, ((masks l acc).getD j 0).testBit i = true → Reach ops i j
  | [], acc, _, hacc => hacc
  | o :: l, acc, hl, hacc => by
    refine masks_sound l _ ?_ ?_
    · intro k hk
      have := hl (k + 1) (by simp; omega)
      simp only [List.getElem?_cons_succ] at this
      rw [← this]
      congr 1
      simp; omega
    · intro i j h
      have h0 := hl 0 (by simp)
      simp only [Nat.add_zero, List.getElem?_cons_zero] at h0
      by_cases hj : j < acc.size
      · have : (acc.push (edgesMask acc o.after.toList)).getD j 0 = acc.getD j 0 := by simp [Array.getElem?_push, Nat.ne_of_lt hj]
        rw [this] at h
        exact hacc i j h
      · by_cases hj2 : j = acc.size
        · subst hj2
          have : (acc.push (edgesMask acc o.after.toList)).getD acc.size 0 = edgesMask acc o.after.toList := by simp
          rw [this] at h
          rcases edgesMask_bit _ _ h with h | ⟨e, he, hb, h⟩
          · simp at h
          · have hedge : edgeB ops e.on acc.size = true := by
              simp only [edgeB, h0, Option.map_some, Option.getD_some, Array.any_eq_true', Bool.and_eq_true, beq_iff_eq]
              exact ⟨e, by simpa using he, hb, rfl⟩
            rcases h with h | h
            · exact .edge (h ▸ hedge)
            · exact .step (hacc i e.on h) hedge
        · have : (acc.push (edgesMask acc o.after.toList)).getD j 0 = 0 := by
            simp [Array.getElem?_push, hj2, Array.getElem?_eq_none (Nat.le_of_not_lt hj)]
          rw [this] at h; simp at h
def reachB (ms : Array Nat) (i j : Nat) : Bool := (ms.getD j 0).testBit i
def orderOk (ops : Array Oper) (ms : Array Nat) : List Nat → Bool
  | [] => true
  | i :: rest => !(edgeB ops i i) && rest.all (fun j => (j != i) && !(edgeB ops j i) && !((ops[i]?).map cls == some 4 && (ops[j]?).map cls == some 3) && (match ops[i]?, ops[j]? with | some x, some y => reachB ms i j || free ops x y | _, _ => false)) && orderOk ops ms rest
def drawOk (ops : Array Oper) (order : List Nat) : Bool := orderOk ops (masks ops.toList #[]) order && decide (order.length = ops.size) && order.all (fun i => decide (i < ops.size)) && (List.range ops.size).all (fun i => order.contains i) && ops.all (fun o => (cls o != 5) && o.after.all fun e => !(Region.binds .any e) || decide (e.on < ops.size))
def Closed (ops : Array Oper) (L : Array Bool) : Prop := ∀ j, L.getD j false = true → ∀ i, edgeB ops i j = true → L.getD i false = true
theorem reach_listed {ops : Array Oper} {L : Array Bool} (hL : Closed ops L) {i j : Nat} (h : Reach ops i j) : (∀ k, edgeB ops k j = true → L.getD k false = true) → L.getD i false = true := by
  induction h with
  | edge h => exact fun hj => hj _ h
  | step h h' ih => exact fun hj => ih fun k hk => hL _ (hj _ h') k hk
theorem gidx_cons {ops : Array Oper} {K : Fr → GH → Prop} {i : Nat} {rest : List Nat} {o : Oper} (ho : ops[i]? = some o) {f : Fr} {G : GH} : gidx P ops K (i :: rest) f G =
    if Region.wanted o (gyield ops f) then vop P o f G (fun v G' => gidx P ops K rest (put f o.dst v) G') else gidx P ops K rest (put f o.dst undef) G := by
  simp only [gidx, ho]
def opsOf (ops : Array Oper) (R : List Nat) : List Oper := R.filterMap (ops[·]?)
def partFine (P : Program) (ops : Array Oper) (j : Nat) (T : TypeId) : Bool :=
  match ops[j]? with
  | some ⟨_, .load _ _, _, _, _, _⟩ => (match tyD P T with | some d => isAggD d | none => false)
  | some ⟨_, .build _ _, _, _, _, _⟩ => (match tyD P T, tyZ P T with | some (.struct fs), some z => (z.cells.size == tySz P T) && fs.toList.all (fun f => decide (0 < tySz P f.type)) | _, _ => false)
  | _ => false
def partGood (P : Program) (ops : Array Oper) (i sz : Nat) : Operand → Bool
  | .const v => v.cells.size == sz
  | .tmp t => (List.range ops.size).any fun j => edgeB ops j i && (match soleLoad ops j with | some (t', T) => t' == t && partFine P ops j T && tySz P T == sz | none => false)
  | _ => false
def bsGood (P : Program) (ops : Array Oper) (i : Nat) (o : Oper) : Bool :=
  match o.op with
  | .buildSlice T n ps =>
    match ps.toList with
    | [(k, x)] => !(bsSyn ops o) || k == 0 && n == 1 && (match tyD P T with | some (.slice e) => decide (0 < tySz P e) && decide (tySz P e ≤ 2 ^ 24) && (tyZ P e).isSome && partGood P ops i (tySz P e) x | _ => false)
    | _ => true
  | _ => true
def allocAll (P : Program) (ops : Array Oper) : Bool := ops.all (allocOk P) && (List.range ops.size).all fun i => match ops[i]? with | some o => bsGood P ops i o | none => true
def Loaded (P : Program) (ops : Array Oper) (L : Array Bool) (f : Fr) : Prop := ∀ j t T, soleLoad ops j = some (t, T) → L.getD j false = true → partFine P ops j T = true → (f t).cells.size = tySz P T
theorem soleLoad_spec {ops : Array Oper} {j t : Nat} {T : TypeId} (h : soleLoad ops j = some (t, T)) : (∃ op a b c, ops[j]? = some ⟨some t, op, a, b, c, none⟩ ∧ ((∃ p, op = .load T p) ∨ ∃ p, op = .build T p)) ∧ ∀ (k : Nat) (o : Oper), ops[k]? = some o → k ≠ j → o.dst ≠ some t := by
  unfold soleLoad at h
  split at h
  · rename_i t' T' p a b c ho
    split at h
    · rename_i ha
      simp only [Option.some.injEq, Prod.mk.injEq] at h
      obtain ⟨rfl, rfl⟩ := h
      refine ⟨⟨_, _, _, _, ho, .inl ⟨_, rfl⟩⟩, fun k o hk hne e => ?_⟩
      have hlt := (Array.getElem?_eq_some_iff.1 hk).1
      have := List.all_eq_true.1 ha k (List.mem_range.2 hlt)
      simp [hk, e, hne] at this
    · cases h
  · rename_i t' T' p a b c ho
    split at h
    · rename_i ha
      simp only [Option.some.injEq, Prod.mk.injEq] at h
      obtain ⟨rfl, rfl⟩ := h
      refine ⟨⟨_, _, _, _, ho, .inr ⟨_, rfl⟩⟩, fun k o hk hne e => ?_⟩
      have hlt := (Array.getElem?_eq_some_iff.1 hk).1
      have := List.all_eq_true.1 ha k (List.mem_range.2 hlt)
      simp [hk, e, hne] at this
    · cases h
  · cases h
theorem pvLoad_size {T : TypeId} {p v : Value} {G : GH} {d : TypeDesc} (ht : tyD P T = some d) (hd : isAggD d = true) (h : pvLoad P T p G = some v) : v.cells.size = tySz P T := by
  unfold pvLoad at h
  split at h
  · rw [ht, Option.map_some, hd] at h
    dsimp only at h
    split at h
    · simp only [Option.map_eq_some_iff] at h
      obtain ⟨cs, hcs, rfl⟩ := h
      show cs.toArray.size = _
      unfold gcells at hcs
      split at hcs
      · split at hcs
        · rename_i hle
          cases hcs
          simp; omega
        · cases hcs
      · cases hcs
    · cases h
  · cases h
theorem calm_mapM {α β : Type} {f : α → Sem β} {g : α → β} : ∀ (l : List α), (∀ x ∈ l, calm P (f x) = some (g x)) → calm P (l.mapM f) = some (l.map g)
  | [], _ => by rw [List.mapM_nil]; rfl
  | x :: l, h => by
    rw [List.mapM_cons, calm_bind, h x (by simp)]
    simp only [Option.bind_some]
    rw [calm_bind, calm_mapM l (fun y hy => h y (by simp [hy]))]
    rfl
theorem calm_map {α β : Type} (f : α → β) (s : Sem α) : calm P (f <$> s) = (calm P s).map f := by
  rw [map_eq_pure_bind, calm_bind]
  cases calm P s <;> rfl
theorem calm_amapM {α β : Type} {f : α → Sem β} {g : α → β} (l : Array α) (h : ∀ x ∈ l.toList, calm P (f x) = some (g x)) : calm P (l.mapM f) = some (l.map g) := by
  rw [Array.mapM_eq_mapM_toList, calm_map, calm_mapM _ h]
  rw [Option.map_some, Option.some.injEq, ← Array.toList_inj]; simp
theorem calm_sizeOf {t : TypeId} (h : 0 < tySz P t) : calm P (sizeOf t) = some (tySz P t) := by
  obtain ⟨i, h1, h2⟩ := info_some h
  unfold sizeOf typeInfo
  rw [calm_bind, calm_bind, calm_program]
  simp only [Option.bind_some, h1]
  rw [← h2]; rfl
theorem setFold_size (off : Nat) : ∀ (l : List (Value × Nat)) (cells : Array Value), (l.foldl (fun cs p => cs.setIfInBounds (off + p.2) p.1) cells).size = cells.size
  | [], _ => rfl
  | p :: l, cells => by rw [List.foldl_cons, setFold_size off l]; simp
theorem fill_size (place : Nat → Option (Nat × Nat)) : ∀ (ps : List (Nat × Value)) (cells cells' : Array Value), Instr.fill place cells ps = some cells' → cells'.size = cells.size
  | [], cells, cells', h => by rw [Instr.fill] at h; cases h; rfl
  | (i, v) :: ps, cells, cells', h => by
    rw [Instr.fill] at h
    split at h
    · cases h
    · split at h
      · cases h
      · rw [fill_size place ps _ _ h, ← Array.foldl_toList]
        exact setFold_size _ _ _
theorem pvBuild_size {T : TypeId} {fs : Array Field} {z v : Value} {ps : List (Nat × Value)} (hT : tyD P T = some (.struct fs)) (hz : tyZ P T = some z) (hs : fs.toList.all (fun f => decide (0 < tySz P f.type)) = true) (h : pvBuild P T ps = some v) : v.cells.size = z.cells.size := by
  have hd := det_spec h
  have key : ∀ G K, gwp P (Instr.build T ps.toArray) G K = (match Instr.fill ((fs.map fun f => (f.offset, tySz P f.type))[·]?) z.cells ps with | some cells => K (.agg cells) G | none => False) := by
    intro G K
    unfold Instr.build
    rw [gwp_bind, gwp_zeroValue _ _ _ hz, gwp_bind, gwp_underlying _ _ _ hT]
    dsimp only
    have : calm P (fs.mapM fun f => do pure (f.offset, ← sizeOf f.type)) = some (fs.map fun f => (f.offset, tySz P f.type)) := by
      refine calm_amapM _ fun f hf => ?_
      have := List.all_eq_true.1 hs f hf
      rw [calm_bind, calm_sizeOf (by simpa using this)]; rfl
    rw [gwp_bind, gwp_calm _ this]
    cases hf : Instr.fill ((fs.map fun f => (f.offset, tySz P f.type))[·]?) z.cells ps with
    | some cells => rfl
    | none => rfl
  have h1 := hd (fun _ => none) (fun u _ => u.cells.size = z.cells.size)
  have h2 := hd (fun _ => none) (fun _ _ => True)
  dsimp only at h1 h2
  rw [key] at h1 h2
  cases hf : Instr.fill ((fs.map fun f => (f.offset, tySz P f.type))[·]?) z.cells ps with
  | none => rw [hf] at h2; simp at h2
  | some cells =>
    rw [hf] at h1
    dsimp only at h1
    rw [← h1]
    exact fill_size _ _ _ _ hf
theorem Loaded.step {ops : Array Oper} {L : Array Bool} {f : Fr} {i : Nat} {o : Oper} {v : Value} (hL : Loaded P ops L f) (hsz : L.size = ops.size) (ho : ops[i]? = some o) (hv : ∀ t T, soleLoad ops i = some (t, T) → partFine P ops i T = true → v.cells.size = tySz P T) : Loaded P ops (L.setIfInBounds i true) (put f o.dst v) := by
  intro j t T hs hl hd
  obtain ⟨⟨op, a, b, c, hj, _⟩, hk⟩ := soleLoad_spec hs
  by_cases e : i = j
  · subst e
    rw [hj] at ho; cases ho
    have : put f (some t) v t = v := by simp [put]
    show (put f (some t) v t).cells.size = _
    rw [this]; exact hv _ _ hs hd
  · rw [getD_set_ne false e] at hl
    have hne := hk i o ho e
    have : put f o.dst v t = f t := by
      cases hd' : o.dst with
      | none => rfl
      | some u =>
        have : t ≠ u := fun e => hne (by rw [hd', e])
        simp [put, this]
    rw [this]; exact hL _ _ _ hs hl hd
theorem bs_fine {ops : Array Oper} {L : Array Bool} {f : Fr} {i : Nat} {o : Oper} (hask : bsAsk P ops o f) (hg : bsGood P ops i o = true) (hL : Loaded P ops L f) (hpre : ∀ k, edgeB ops k i = true → L.getD k false = true) : bsFine P o f := by
  unfold bsFine
  unfold bsGood at hg
  split
  · rename_i T n ps hop
    intro h1
    unfold bsAsk at hask
    rw [hop] at hask
    rcases hask h1 with hsyn | hsome
    rotate_left 1
    · exact hsome
    rw [hop] at hg
    dsimp only at hg
    obtain ⟨⟨k, x⟩, hps⟩ : ∃ p, ps.toList = [p] := by
      match hl : ps.toList with
      | [] => rw [← Array.length_toList, hl] at h1; cases h1
      | [p] => exact ⟨p, rfl⟩
      | p :: q :: l => rw [← Array.length_toList, hl] at h1; simp at h1
    rw [hps] at hg ⊢
    simp only [hsyn, Bool.not_true, Bool.false_or, Bool.and_eq_true, beq_iff_eq] at hg
    obtain ⟨⟨rfl, rfl⟩, hg⟩ := hg
    split at hg
    · rename_i e hT
      simp only [Bool.and_eq_true, decide_eq_true_eq] at hg
      obtain ⟨⟨⟨h2, h3⟩, h4⟩, h5⟩ := hg
      have hx : (ev f x).cells.size = tySz P e := by
        unfold partGood at h5
        split at h5
        · simpa [ev] using h5
        · rename_i t
          obtain ⟨j, _, hj⟩ := List.any_eq_true.1 h5
          simp only [Bool.and_eq_true] at hj
          obtain ⟨hj1, hj2⟩ := hj
          split at hj2
          · rename_i t' T' hs
            simp only [Bool.and_eq_true, beq_iff_eq] at hj2
            obtain ⟨⟨rfl, hd⟩, hs2⟩ := hj2
            rw [← hs2]
            exact hL _ _ _ hs (hpre _ hj1) hd
          · cases hj2
        · cases h5
      obtain ⟨z, hz⟩ := Option.isSome_iff_exists.1 h4
      unfold bsCells
      simp only [hT, hz, List.map_cons, List.map_nil, Option.map_some, Nat.one_mul]
      rw [if_pos ⟨h2, h3⟩, if_neg (by omega)]
      dsimp only
      rw [Instr.fill]
      dsimp only
      rw [if_neg (by rw [hx]; simp), Instr.fill]
      rfl
    · cases hg
  · trivial
theorem lin_sound {ops : Array Oper} {K : Fr → GH → Prop} (halloc : ops.all (allocOk P) = true) (hgood : ∀ i o, ops[i]? = some o → bsGood P ops i o = true) (h5 : ops.all (fun o => (cls o != 5) && o.after.all fun e => !(Region.binds .any e) || decide (e.on < ops.size)) = true) :
    ∀ (fuel t : Nat) (L : Array Bool) (R : List Nat) (G0 : GH) (f : Fr) (G : GH), L.size = ops.size → (∀ i, i < ops.size → (L.getD i false = false ↔ i ∈ R)) → (∀ i ∈ R, i < ops.size) → orderOk ops (masks ops.toList #[]) R = true → Closed ops L → R.length ≤ fuel →
      (G0.le G ∨ ∀ j ∈ R, ∀ o, ops[j]? = some o → cls o ≠ 3) → Loaded P ops L f → mrun P ops G0 K (opsOf ops R) f G → gidx P ops K (Region.linearise.go .any ops fuel t L []) f G := by
  intro fuel
  induction fuel with
  | zero =>
    intro t L R G0 f G hsz hLR hR hord hcl hlen hle hld h
    have : R = [] := List.eq_nil_of_length_eq_zero (by omega)
    subst this
    simpa [Region.linearise.go, gidx, opsOf, mrun, mrunAt] using h
  | succ fuel ih =>
    intro t L R G0 f G hsz hLR hR hord hcl hlen hle hld h
    simp only [Region.linearise.go]
    change gidx P ops K (match (Region.ready .any ops L)[t % (Region.ready .any ops L).length]? with
      | some i => Region.linearise.go .any ops fuel (t / (Region.ready .any ops L).length) (L.setIfInBounds i true) [i]
      | none => [].reverse) f G
    cases hi : (Region.ready .any ops L)[t % (Region.ready .any ops L).length]? with
    | none =>
      have hnil : Region.ready .any ops L = [] := by
        cases hr : Region.ready .any ops L with
        | nil => rfl
        | cons x xs =>
          rw [hr] at hi
          have hlt : t % (x :: xs).length < (x :: xs).length := Nat.mod_lt _ (by simp)
          rw [List.getElem?_eq_getElem hlt] at hi
          cases hi
      cases R with
      | nil => simpa [gidx, opsOf, mrun, mrunAt] using h
      | cons i rest =>
        exfalso
        have hiR := hR i (by simp)
        have : i ∈ Region.ready .any ops L := by
          rw [mem_ready]
          refine ⟨?_, ops[i], by simp [hiR], ?_⟩
          · have h1 := (hLR i hiR).2 (by simp)
            rw [Array.getD_eq_getD_getElem?] at h1 ⊢
            rw [Array.getElem?_eq_getElem (by omega)] at h1 ⊢
            exact h1
          · intro e he hb
            have hedge : edgeB ops e.on i = true := by
              simp only [edgeB, show ops[i]? = some ops[i] from by simp [hiR], Option.map_some, Option.getD_some, Array.any_eq_true', Bool.and_eq_true, beq_iff_eq]
              exact ⟨e, he, hb, rfl⟩
            have hon : e.on < ops.size := by
              rw [Array.all_eq_true_iff_forall_mem] at h5
              have := h5 ops[i] (Array.getElem_mem hiR)
              simp only [Bool.and_eq_true] at this
              have h2 := this.2
              rw [Array.all_eq_true_iff_forall_mem] at h2
              have h3 := h2 e he
              simpa [hb] using h3
            cases hl : L.getD e.on false with
            | true => rfl
            | false =>
              exfalso
              have hmem := (hLR _ hon).1 hl
              simp only [orderOk, Bool.and_eq_true, List.all_eq_true, Bool.not_eq_true'] at hord
              rcases List.mem_cons.1 hmem with e1 | e1
              · rw [e1] at hedge; rw [hedge] at hord; exact absurd hord.1.1 (by simp)
              · have := (hord.1.2 _ e1).1.1.2
                rw [hedge] at this; exact absurd this (by simp)
        rw [hnil] at this
        simp at this
    | some i =>
      simp only []
      rw [linearise_go_acc, List.reverse_singleton, List.singleton_append]
      have hready := mem_ready.1 (List.mem_of_getElem? hi)
      obtain ⟨hun, o, ho, hpre⟩ := hready
      have hlt : i < ops.size := (Array.getElem?_eq_some_iff.1 ho).1
      have hun' : L.getD i false = false := by
        rw [Array.getD_eq_getD_getElem?, Array.getElem?_eq_getElem (by omega)] at hun ⊢; exact hun
      have hiR := (hLR i hlt).1 hun'
      obtain ⟨A, B, rfl⟩ := List.append_of_mem hiR
      have hpre' : ∀ k, edgeB ops k i = true → L.getD k false = true := by
        intro k hk
        simp only [edgeB, ho, Option.map_some, Option.getD_some, Array.any_eq_true', Bool.and_eq_true, beq_iff_eq] at hk
        obtain ⟨e, he, hb, rfl⟩ := hk
        exact hpre e he hb
      have ordA : ∀ (A : List Nat), orderOk ops (masks ops.toList #[]) (A ++ i :: B) = true → ∀ a ∈ A, a ≠ i ∧ ¬ ((ops[a]?).map cls = some 4 ∧ (ops[i]?).map cls = some 3) ∧ (match ops[a]?, ops[i]? with | some x, some y => reachB (masks ops.toList #[]) a i || free ops x y | _, _ => false) = true := by
        intro A
        induction A with
        | nil => simp
        | cons b A ihA =>
          intro ho' a ha
          simp only [List.cons_append, orderOk, Bool.and_eq_true, List.all_eq_true] at ho'
          rcases List.mem_cons.1 ha with rfl | ha
          · have := ho'.1.2 i (by simp)
            refine ⟨fun e => ?_, ?_, this.2⟩
            · have h1 := this.1.1.1; simp [e] at h1
            · have h1 := this.1.2
              simp only [Bool.not_eq_true', Bool.and_eq_false_iff] at h1
              rintro ⟨e1, e2⟩
              rw [e1, e2] at h1; simp at h1
          · exact ihA ho'.2 a ha
      have ordB : ∀ (A : List Nat), orderOk ops (masks ops.toList #[]) (A ++ i :: B) = true → orderOk ops (masks ops.toList #[]) (A ++ B) = true ∧ ∀ b ∈ B, b ≠ i ∧ ¬ ((ops[i]?).map cls = some 4 ∧ (ops[b]?).map cls = some 3) := by
        intro A
        induction A with
        | nil =>
          intro ho'
          simp only [List.nil_append, orderOk, Bool.and_eq_true, List.all_eq_true] at ho'
          refine ⟨ho'.2, fun b hb => ?_⟩
          have := ho'.1.2 b hb
          refine ⟨fun e => ?_, ?_⟩
          · have h1 := this.1.1.1; simp [e] at h1
          · have h1 := this.1.2
            simp only [Bool.not_eq_true', Bool.and_eq_false_iff] at h1
            rintro ⟨e1, e2⟩
            rw [e1, e2] at h1; simp at h1
        | cons b A ihA =>
          intro ho'
          simp only [List.cons_append, orderOk, Bool.and_eq_true, List.all_eq_true] at ho' ⊢
          refine ⟨⟨⟨ho'.1.1, fun x hx => ho'.1.2 x (by simp at hx ⊢; rcases hx with hx | hx <;> simp [hx])⟩, (ihA ho'.2).1⟩, (ihA ho'.2).2⟩
      have hfreeA : ∀ x ∈ opsOf ops A, free ops x o = true := by
        intro x hx
        obtain ⟨a, ha, hxa⟩ := List.mem_filterMap.1 hx
        obtain ⟨hne, _, hm⟩ := ordA A hord a ha
        simp only [hxa, ho, Bool.or_eq_true] at hm
        rcases hm with hm | hm
        · exfalso
          have hl := reach_listed hcl (masks_sound (ops := ops) ops.toList #[] (by simp) (by simp) _ _ hm) hpre'
          have halt := hR a (by simp [ha])
          have := (hLR a halt).2 (by simp [ha])
          rw [hl] at this; cases this
        · exact hm
      have hsplit : opsOf ops (A ++ i :: B) = opsOf ops A ++ o :: opsOf ops B := by simp [opsOf, List.filterMap_append, ho]
      rw [hsplit] at h
      have hp := mrun_pull (opsOf ops A) hfreeA f G h
      rw [gidx_cons ho]
      have hnext : ∀ (A0 : GH) (f' : Fr) (G' : GH), Loaded P ops (L.setIfInBounds i true) f' → (A0.le G' ∨ ∀ j ∈ A ++ B, ∀ o, ops[j]? = some o → cls o ≠ 3) → mrun P ops A0 K (opsOf ops A ++ opsOf ops B) f' G' → gidx P ops K (Region.linearise.go .any ops fuel (t / (Region.ready .any ops L).length) (L.setIfInBounds i true) []) f' G' := by
        intro A0 f' G' hld' hle' hm
        refine ih _ _ (A ++ B) A0 _ _ (by simpa using hsz) ?_ (fun x hx => hR x (by simp at hx ⊢; rcases hx with hx | hx <;> simp [hx])) (ordB A hord).1 ?_ (by simp at hlen ⊢; omega) hle' hld' (by simpa [opsOf, List.filterMap_append] using hm)
        · intro j hj
          by_cases e : i = j
          · subst e
            have : (L.setIfInBounds i true).getD i false = true := by simp [hsz, hlt]
            rw [this]
            simp only [Bool.true_eq_false, false_iff, List.mem_append, not_or]
            exact ⟨fun hm => (ordA A hord i hm).1 rfl, fun hm => ((ordB A hord).2 i hm).1 rfl⟩
          · rw [getD_set_ne false e, hLR j hj]
            simp [Ne.symm e]
        · intro j hj k hk
          by_cases e : i = j
          · subst e; exact getD_set_true (hpre' k hk)
          · rw [getD_set_ne false e] at hj
            exact getD_set_true (hcl j hj k hk)
      have hle4 : cls o = 4 → ∀ j ∈ A ++ B, ∀ x, ops[j]? = some x → cls x ≠ 3 := by
        intro h4 j hj x hx h3
        rcases List.mem_append.1 hj with hj | hj
        · have := hfreeA x (List.mem_filterMap.2 ⟨j, hj, hx⟩)
          simp only [free, okPair, h4, h3, lookMent_cls h3] at this
          simp at this
        · exact ((ordB A hord).2 j hj).2 ⟨by simp [ho, h4], by simp [hx, h3]⟩
      have ho5 : cls o ≠ 5 := by
        rw [Array.all_eq_true_iff_forall_mem] at h5
        have := h5 o (Array.mem_of_getElem? ho)
        simp only [Bool.and_eq_true, bne_iff_ne, ne_eq] at this
        exact this.1
      have hall : allocOk P o = true := by
        rw [Array.all_eq_true_iff_forall_mem] at halloc
        exact halloc o (Array.mem_of_getElem? ho)
      have hrest : (G0.le G ∨ ∀ j ∈ A ++ B, ∀ o, ops[j]? = some o → cls o ≠ 3) := hle.imp id fun h j hj => h j (by simp at hj ⊢; rcases hj with hj | hj <;> simp [hj])
      rw [mstep_iff] at hp
      split
      · rename_i hw
        rw [if_pos hw] at hp
        obtain ⟨hask, hp⟩ := hp
        have hno : ∀ v : Value, 2 ≤ cls o → ∀ t T, soleLoad ops i = some (t, T) → partFine P ops i T = true → v.cells.size = tySz P T := by
          intro v h2 t T hs
          obtain ⟨⟨op, a, b, c, hj, hop⟩, _⟩ := soleLoad_spec hs
          rw [ho] at hj; cases hj
          rcases hop with ⟨p, rfl⟩ | ⟨p, rfl⟩ <;> exact absurd h2 (by simp [cls])
        by_cases hc : cls o ≤ 3
        · by_cases hc1 : cls o ≤ 1
          · rw [mop_pv hc1] at hp
            rw [vop_pv hc1]
            cases hv : pvOf P o f G with
            | none => rw [hv] at hp; exact hp.elim
            | some v =>
              rw [hv] at hp
              rw [vpure, mnx_id (by omega)] at hp
              refine hnext _ _ _ (hld.step hsz ho fun t T hs hd => ?_) hrest hp
              obtain ⟨⟨op, a, b, c, hj, hop⟩, _⟩ := soleLoad_spec hs
              have ho' := ho
              rw [hj] at ho; cases ho
              rcases hop with ⟨p, rfl⟩ | ⟨p, rfl⟩
              · unfold partFine at hd
                rw [hj] at hd
                dsimp only at hd
                split at hd
                · rename_i d hd'; exact pvLoad_size hd' hd hv
                · cases hd
              · unfold partFine at hd
                rw [hj] at hd
                dsimp only at hd
                split at hd
                · rename_i fs z h1 h2
                  simp only [Bool.and_eq_true, beq_iff_eq] at hd
                  rw [← hd.1]; exact pvBuild_size h1 h2 hd.2 hv
                · cases hd
          · have hp' := mop_le hc hp (K' := fun v G' => gidx P ops K (Region.linearise.go .any ops fuel (t / (Region.ready .any ops L).length) (L.setIfInBounds i true) []) (put f o.dst v) G') fun v G' hl hA hk =>
              hnext _ _ _ (hld.step hsz ho (hno v (by omega))) (hrest.imp (fun h => hA _ h) id) hk
            refine mop_vop (fun h3 => ?_) hall (bs_fine hask (hgood i o ho) hld hpre') hp'
            rcases hle with hle | hle
            · exact hle
            · exact absurd h3 (hle i (by simp) o ho)
        · have h4 : cls o = 4 := by
            have : cls o ≤ 5 := by
              obtain ⟨dst, op, T0, pos, after, guard⟩ := o
              unfold cls
              cases op <;> dsimp only <;> (first | omega | (split <;> omega) | (split <;> (first | omega | (split <;> omega))))
            omega
          rw [mop_eff h4] at hp
          exact vop_mono hp fun v G' hk => hnext _ _ _ (hld.step hsz ho (hno v (by omega))) (.inr (hle4 h4)) hk
      · rename_i hw
        rw [if_neg hw, mnx_undef] at hp
        refine hnext _ _ _ (hld.step hsz ho fun t T hs _ => ?_) hrest hp
        obtain ⟨⟨op, a, b, c, hj, _⟩, _⟩ := soleLoad_spec hs
        rw [ho] at hj; cases hj
        exact absurd rfl hw
theorem draw_sound {ops : Array Oper} {id : Nat} {Q : Exit → Fr → GH → Prop} {f : Fr} {G : GH} (order : List Nat) (hm : P.follows .mixedOrders = true) (halloc : allocAll P ops = true) (hok : drawOk ops order = true)
    (h : mrun P ops G (Q .normal) (opsOf ops order) f G) : awp P (.region id ops true) Q f G := by
  intro t
  simp only [Region.schedule, hm, Bool.true_or, if_true]
  simp only [drawOk, Bool.and_eq_true, decide_eq_true_eq, List.all_eq_true, List.mem_range] at hok
  obtain ⟨⟨⟨⟨hord, hlen⟩, hlt⟩, hcov⟩, h5⟩ := hok
  simp only [allocAll, Bool.and_eq_true, List.all_eq_true, List.mem_range] at halloc
  have hgood : ∀ i o, ops[i]? = some o → bsGood P ops i o = true := fun i o ho => by
    have := halloc.2 i (Array.getElem?_eq_some_iff.1 ho).1
    rw [ho] at this; exact this
  refine lin_sound halloc.1 hgood h5 ops.size t _ order G f G (by simp) ?_ hlt hord ?_ (by omega) (.inl (le_refl' G)) ?_ h
  rotate_left 2
  · intro j t T hs hl
    have : (Array.replicate ops.size false).getD j false = false := by
      rw [Array.getD_eq_getD_getElem?, Array.getElem?_replicate]; split <;> rfl
    rw [this] at hl; cases hl
  · intro i hi
    have : (Array.replicate ops.size false).getD i false = false := by simp [Array.getElem?_replicate, hi]
    simp only [this, true_iff]
    simpa using hcov i hi
  · intro j hj
    have : (Array.replicate ops.size false).getD j false = false := by
      rw [Array.getD_eq_getD_getElem?, Array.getElem?_replicate]; split <;> rfl
    rw [this] at hj; cases hj
end Go.GL
