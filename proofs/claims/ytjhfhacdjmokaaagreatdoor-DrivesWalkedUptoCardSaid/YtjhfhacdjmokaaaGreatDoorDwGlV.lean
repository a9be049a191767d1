/- A part of a proof: Walk and Length are as specified for all roads and arcs (statement DrivesWalkedUptoCardSaid) -/
import Derived.Test.YtjhfhacdjmokaaaGreatDoorDwGlF
set_option linter.unusedSimpArgs false
set_option linter.unusedVariables false
set_option linter.unusedSectionVars false
namespace Go.GL
open Go Go.RowKit
variable {P : Program}
def isStore (o : Oper) : Bool := match o.op with | .store .. => true | _ => false
def newOk (P : Program) (o : Oper) : Bool := match o.op with | .alloc T => (tyZ P T).isSome | .box _ _ => true | .makeSlice .. => true | _ => false
def isMs (o : Oper) : Bool := match o.op with | .makeSlice .. => true | _ => false
def isTot (o : Oper) : Bool := match o.op with | .move _ | .assign _ => true | _ => false
def nop (P : Program) (o : Oper) (f : Fr) (G : GH) (K : Value → GH → Prop) : Prop :=
  match o.op with
  | .makeSlice T x y => vnew (.cells ((msCells P T (ev f x) (ev f y)).getD (0, 0, #[], 0)).2.2.1 ((msCells P T (ev f x) (ev f y)).getD (0, 0, #[], 0)).2.2.2 (0, 0)) G (fun r G' => K (.slice (some ⟨r, 0, none⟩) ((msCells P T (ev f x) (ev f y)).getD (0, 0, #[], 0)).1 ((msCells P T (ev f x) (ev f y)).getD (0, 0, #[], 0)).2.1) G')
  | _ => vop P o f G K
def msC (P : Program) (o : Oper) (f : Fr) : Prop := match o.op with | .makeSlice T x y => (msCells P T (ev f x) (ev f y)).isSome = true | _ => True
theorem nop_vop {o : Oper} {f : Fr} (hc : msC P o f) {G : GH} {K : Value → GH → Prop} (h : nop P o f G K) : vop P o f G K := by
  obtain ⟨dst, op, T0, pos, after, guard⟩ := o
  unfold nop at h
  cases op <;> dsimp only at h ⊢ <;> try exact h
  case makeSlice T x y =>
    obtain ⟨m, hm⟩ := Option.isSome_iff_exists.1 (show (msCells P T (ev f x) (ev f y)).isSome = true from hc)
    show vms (msCells P T (ev f x) (ev f y)) G K
    rw [hm] at h ⊢; exact h
theorem vop_nop {o : Oper} {f : Fr} {G : GH} {K : Value → GH → Prop} (h : vop P o f G K) : nop P o f G K := by
  obtain ⟨dst, op, T0, pos, after, guard⟩ := o
  unfold nop
  cases op <;> dsimp only at h ⊢ <;> try exact h
  case makeSlice T x y =>
    have h' : vms (msCells P T (ev f x) (ev f y)) G K := h
    cases hm : msCells P T (ev f x) (ev f y) with
    | none => rw [hm] at h'; exact h'.elim
    | some m => rw [hm] at h'; exact h'
theorem nop_congr {o : Oper} (h5 : cls o ≠ 5) {f f' : Fr} (h : ∀ x ∈ o.op.operands, ev f x = ev f' x) (G : GH) (K : Value → GH → Prop) : nop P o f G K = nop P o f' G K := by
  have hv := vop_congr (P := P) h5 h G K
  obtain ⟨dst, op, T0, pos, after, guard⟩ := o
  unfold nop
  cases op <;> dsimp only <;> try exact hv
  case makeSlice T x y => rw [h x (by simp [Op.operands]), h y (by simp [Op.operands])]
theorem msC_congr {o : Oper} {f f' : Fr} (h : ∀ x ∈ o.op.operands, ev f x = ev f' x) : msC P o f = msC P o f' := by
  obtain ⟨dst, op, T0, pos, after, guard⟩ := o
  unfold msC
  cases op <;> dsimp only
  case makeSlice T x y => rw [h x (by simp [Op.operands]), h y (by simp [Op.operands])]
theorem nop_mono {o : Oper} {f : Fr} {G : GH} {K K' : Value → GH → Prop} (h : nop P o f G K) (hk : ∀ v G', K v G' → K' v G') : nop P o f G K' := by
  obtain ⟨dst, op, T0, pos, after, guard⟩ := o
  unfold nop at *
  cases op <;> dsimp only at h ⊢ <;> try exact vop_mono h hk
  case makeSlice T x y => exact vnew_mono h fun _ _ => hk _ _
def sop (P : Program) (Gf : GH) (o : Oper) (f : Fr) (G : GH) (K : Value → GH → Prop) : Prop :=
  if cls o ≤ 1 then vpure (pvOf P o f Gf) G K
  else if newOk P o = true then nop P o f G K
  else match o.op with
    | .store _ p _ => (∃ a, ev f p = .pointer (some a) ∧ Gf a.block = none) ∧ vop P o f G K
    | _ => False
theorem vop_new {o : Oper} (hc : newOk P o = true) (f : Fr) : ∃ (ob : Obj) (mk : Nat → Value), (∀ G K, nop P o f G K ↔ vnew ob G (fun r G' => K (mk r) G')) ∧ (isMs o = false → ∀ r, mk r = .pointer (some ⟨r, 0, none⟩)) := by
  obtain ⟨dst, op, T0, pos, after, guard⟩ := o
  unfold newOk at hc
  unfold nop
  cases op <;> dsimp only at hc ⊢ <;> try (cases hc; done)
  case alloc T =>
    cases hz : tyZ P T with
    | none => rw [hz] at hc; cases hc
    | some z =>
      refine ⟨.cells z.cells T (0, 0), fun r => .pointer (some ⟨r, 0, none⟩), fun G K => ?_, fun _ _ => rfl⟩
      show valloc P T G (fun r G' => K (.pointer (some ⟨r, 0, none⟩)) G') ↔ _
      unfold valloc; rw [hz]
  case box T x => exact ⟨.cells (ev f x).cells T (0, 0), fun r => .pointer (some ⟨r, 0, none⟩), fun _ _ => Iff.rfl, fun _ _ => rfl⟩
  case makeSlice T x y => exact ⟨_, _, fun _ _ => Iff.rfl, fun q => by cases q⟩
theorem newOk_cls {o : Oper} (h : newOk P o = true) : 2 < cls o ∧ cls o < 5 ∧ isStore o = false := by
  obtain ⟨dst, op, T0, pos, after, guard⟩ := o
  unfold newOk at h
  unfold cls isStore
  cases op <;> dsimp only at h ⊢ <;> first | decide | (cases h; done)
theorem tot_cls {o : Oper} (h : isTot o = true) : cls o = 0 := by
  obtain ⟨dst, op, T0, pos, after, guard⟩ := o
  unfold isTot at h
  unfold cls
  cases op <;> dsimp only at h ⊢ <;> first | rfl | (cases h; done)
theorem tot_pv {o : Oper} (h : isTot o = true) (f : Fr) : ∃ v, ∀ G, pvOf P o f G = some v := by
  obtain ⟨dst, op, T0, pos, after, guard⟩ := o
  unfold isTot at h
  unfold pvOf
  cases op <;> dsimp only at h ⊢ <;> first | exact ⟨_, fun _ => rfl⟩ | (cases h; done)
theorem vop_store {o : Oper} {T : TypeId} {p x : Operand} (ho : o.op = .store T p x) {f : Fr} {a : Addr} (ha : ev f p = .pointer (some a)) : ∃ (c : Prop) (vs : List Value), ∀ G K, vop P o f G K ↔ c ∧ vset a vs G (fun G' => K undef G') := by
  obtain ⟨dst, op, T0, pos, after, guard⟩ := o
  dsimp only at ho; subst ho
  refine ⟨0 < tySz P T ∧ (ev f x).cells.size = tySz P T ∧ (ev f x).cells.toList.all oneV = true, (ev f x).cells.toList, fun G K => ?_⟩
  show vstore P T (ev f p) (ev f x) G (fun G' => K undef G') ↔ _
  unfold vstore; rw [ha]
theorem store_cls {o : Oper} (h : isStore o = true) : cls o = 4 := by
  obtain ⟨dst, op, T0, pos, after, guard⟩ := o
  unfold isStore at h
  unfold cls
  cases op <;> dsimp only at h ⊢ <;> first | rfl | cases h
theorem vnew_mono' {ob : Obj} {G : GH} {K K' : Nat → GH → Prop} (h : vnew ob G K) (hk : ∀ r, G r = none → K r (G.put r (ob, true)) → K' r (G.put r (ob, true))) : vnew ob G K' := fun r hr => hk r hr (h r hr)
theorem sop_mono {Gf : GH} {o : Oper} {f : Fr} {G : GH} {K K' : Value → GH → Prop} (h : sop P Gf o f G K) (hk : ∀ v G', K v G' → K' v G') : sop P Gf o f G K' := by
  unfold sop at *
  split
  · rename_i h1; rw [if_pos h1] at h; exact vpure_mono h (fun v => hk v G)
  · rename_i h1
    rw [if_neg h1] at h
    split
    · rename_i h3; rw [if_pos h3] at h; exact nop_mono h hk
    · rename_i h3
      rw [if_neg h3] at h
      split at h
      · exact ⟨h.1, vop_mono h.2 hk⟩
      · exact h.elim
theorem sop_vop {Gf : GH} {o : Oper} {f : Fr} {G : GH} {K : Value → GH → Prop} (hle : Gf.le G) (hc : cls o ≤ 1 ∨ msC P o f) (h : sop P Gf o f G K) : vop P o f G (fun v G' => Gf.le G' ∧ (cls o ≤ 1 → pvOf P o f Gf = some v) ∧ K v G') := by
  unfold sop at h
  split at h
  · rename_i h1
    rw [vop_pv h1]
    cases hv : pvOf P o f Gf with
    | none => rw [hv] at h; exact h.elim
    | some v => rw [hv] at h; rw [pvOf_le hle hv]; exact ⟨hle, fun _ => rfl, h⟩
  · split at h
    · rename_i h3
      have h1 : ¬ cls o ≤ 1 := by assumption
      obtain ⟨ob, mk, hn, _⟩ := vop_new (P := P) h3 f
      refine nop_vop (hc.resolve_left h1) ?_
      rw [hn] at h ⊢
      exact vnew_mono' h fun r hr hk => ⟨le_trans' hle (le_put' hr _), fun q => absurd q h1, hk⟩
    · split at h
      · rename_i T p x ho
        obtain ⟨⟨a, ha, hf⟩, h⟩ := h
        obtain ⟨c, vs, hs⟩ := vop_store (P := P) ho ha
        rw [hs] at h ⊢
        obtain ⟨hc, h1, cc, e, h2, h3, hk⟩ := h
        refine ⟨hc, h1, cc, e, h2, h3, ?_, fun q => absurd q (by assumption), hk⟩
        intro b o' hb
        unfold GH.put; split
        · rename_i e; subst e; rw [hf] at hb; cases hb
        · exact hle _ _ hb
      · exact h.elim
def spair (P : Program) (x y : Oper) : Bool := decide (cls x ≤ 1) || (newOk P x && newOk P y) || (isStore x && newOk P y) || isTot y
theorem sop_swap {Gf : GH} {x y : Oper} (h : spair P x y = true) {f : Fr} {G : GH} {K : Value → Value → GH → Prop}
    (hh : sop P Gf x f G (fun v G1 => sop P Gf y f G1 (fun u G2 => K v u G2))) : sop P Gf y f G (fun u G1 => sop P Gf x f G1 (fun v G2 => K v u G2)) := by
  unfold spair at h
  simp only [Bool.or_eq_true, Bool.and_eq_true, decide_eq_true_eq] at h
  rcases h with ((hx | ⟨hx, hy⟩) | ⟨hx, hy⟩) | hy
  rotate_right 1
  · obtain ⟨u, hu⟩ := tot_pv (P := P) hy f
    have e : ∀ G K, sop P Gf y f G K = K u G := fun G K => by
      unfold sop; rw [if_pos (by rw [tot_cls hy]; decide), hu]; rfl
    rw [e]
    exact sop_mono hh fun v G1 q => by rw [e] at q; exact q
  · have e : ∀ G K, sop P Gf x f G K = vpure (pvOf P x f Gf) G K := fun G K => if_pos hx
    rw [e] at hh
    cases hv : pvOf P x f Gf with
    | none => rw [hv] at hh; exact hh.elim
    | some v =>
      rw [hv] at hh
      refine sop_mono (K := fun u G2 => K v u G2) hh fun u G1 hk => ?_
      rw [e, hv]; exact hk
  · have hx3 := newOk_cls hx
    have hy3 := newOk_cls hy
    have ex : ∀ G K, sop P Gf x f G K = nop P x f G K := fun G K => by unfold sop; rw [if_neg (by omega), if_pos hx]
    have ey : ∀ G K, sop P Gf y f G K = nop P y f G K := fun G K => by unfold sop; rw [if_neg (by omega), if_pos hy]
    simp only [ex, ey] at hh ⊢
    obtain ⟨ob, mk, hn, _⟩ := vop_new (P := P) hx f
    obtain ⟨ob', mk', hn', _⟩ := vop_new (P := P) hy f
    rw [hn] at hh
    rw [hn']
    intro r' hr'
    rw [hn]
    intro r hr
    obtain ⟨hne, hr0⟩ := put_nn.1 hr
    have := hh r hr0
    dsimp only at this
    rw [hn'] at this
    have := this r' (put_nn.2 ⟨Ne.symm hne, hr'⟩)
    rw [put_swap hne]; exact this
  · have hx4 := store_cls hx
    have hy3 := newOk_cls hy
    have ey : ∀ G K, sop P Gf y f G K = nop P y f G K := fun G K => by unfold sop; rw [if_neg (by omega), if_pos hy]
    obtain ⟨ob', mk', hn', _⟩ := vop_new (P := P) hy f
    have hxn : ¬ newOk P x = true := fun q => by have := (newOk_cls q).2.2; rw [hx] at this; cases this
    have es : ∃ T p w, x.op = .store T p w := by
      unfold isStore at hx
      split at hx
      · exact ⟨_, _, _, by assumption⟩
      · cases hx
    obtain ⟨T, p, w, ho⟩ := es
    have ex : ∀ G K, sop P Gf x f G K = ((∃ a, ev f p = .pointer (some a) ∧ Gf a.block = none) ∧ vop P x f G K) := fun G K => by unfold sop; rw [if_neg (by omega), if_neg hxn, ho]
    rw [ex] at hh
    obtain ⟨⟨a, ha, hf⟩, hh⟩ := hh
    obtain ⟨c, vs, hs⟩ := vop_store (P := P) ho ha
    rw [hs] at hh
    obtain ⟨hc, h1, cc, e, h2, h3, hk⟩ := hh
    rw [ey, hn'] at hk
    rw [ey, hn']
    intro r hr
    have hne : r ≠ a.block := fun q => by rw [q, h2] at hr; cases hr
    rw [ex]
    refine ⟨⟨a, ha, hf⟩, ?_⟩
    rw [hs]
    refine ⟨hc, h1, cc, e, ?_, h3, ?_⟩
    · unfold GH.put; rw [if_neg (Ne.symm hne)]; exact h2
    · have := hk r (put_nn.2 ⟨hne, hr⟩)
      rw [put_swap (Ne.symm hne)]; exact this
theorem sop_put {ops : Array Oper} {Gf : GH} {o : Oper} (h5 : cls o ≠ 5) {f : Fr} {d : Option Nat} {v : Value} (h : ∀ k, d = some k → k ∉ o.looksAt ops) (G : GH) (K : Value → GH → Prop) : sop P Gf o (put f d v) G K = sop P Gf o f G K := by
  have hev : ∀ x ∈ o.op.operands, ev (put f d v) x = ev f x := fun x hx => ev_put fun k hk => operands_look (h k hk) x hx
  unfold sop
  rw [pvOf_congr h5 hev, vop_congr h5 hev, nop_congr h5 hev]
  split
  · rfl
  · split
    · rfl
    · split
      · rename_i T p x ho
        rw [hev p (by rw [ho]; simp [Op.operands])]
      · rfl
def srun (P : Program) (Gf : GH) (K : Fr → GH → Prop) : List Oper → Fr → GH → Prop
  | [], f, G => K f G
  | o :: l, f, G => sop P Gf o f G (fun v G' => srun P Gf K l (put f o.dst v) G')
def sfree (P : Program) (ops : Array Oper) (x y : Oper) : Bool := spair P x y && x.apart ops y && (cls x != 5) && (cls y != 5)
theorem srun_pull {ops : Array Oper} {Gf : GH} {K : Fr → GH → Prop} {y : Oper} {B : List Oper} : ∀ (A : List Oper), (∀ a ∈ A, sfree P ops a y = true) → ∀ (f : Fr) (G : GH), srun P Gf K (A ++ y :: B) f G →
    sop P Gf y f G (fun u G' => srun P Gf K (A ++ B) (put f y.dst u) G')
  | [], _, f, G, h => h
  | a :: A, hA, f, G, h => by
    have ha := hA a (by simp)
    unfold sfree at ha
    simp only [Bool.and_eq_true, bne_iff_ne, ne_eq] at ha
    obtain ⟨⟨⟨hp, hap⟩, h5⟩, h5'⟩ := ha
    obtain ⟨s1, s2, s3⟩ := Oper.apart_spec hap
    have h1 : sop P Gf a f G (fun v G1 => sop P Gf y f G1 (fun u G2 => srun P Gf K (A ++ B) (put (put f a.dst v) y.dst u) G2)) := by
      refine sop_mono (show sop P Gf a f G _ from h) fun v G1 h' => ?_
      have := srun_pull (ops := ops) A (fun x hx => hA x (by simp [hx])) _ _ h'
      rw [sop_put h5' s1] at this
      exact this
    refine sop_mono (sop_swap (K := fun v u G2 => srun P Gf K (A ++ B) (put (put f a.dst v) y.dst u) G2) hp h1) fun u G1 h' => ?_
    show sop P Gf a (put f y.dst u) G1 _
    rw [sop_put h5 s3]
    refine sop_mono h' fun v G2 h2 => ?_
    rw [put_comm f u v (fun d hd e => s2 d e hd)]
    exact h2
def crun (P : Program) (Gf : GH) : List Oper → Fr → Prop
  | [], _ => True
  | o :: l, f => if cls o ≤ 1 then ∃ v, pvOf P o f Gf = some v ∧ crun P Gf l (put f o.dst v) else msC P o f ∧ ∀ v, crun P Gf l (put f o.dst v)
theorem ev_apart {ops : Array Oper} {o : Oper} {f : Fr} {d : Option Nat} {v : Value} (h : ∀ k, d = some k → k ∉ o.looksAt ops) : ∀ x ∈ o.op.operands, ev (put f d v) x = ev f x := fun x hx => ev_put fun k hk => operands_look (h k hk) x hx
theorem crun_pull {ops : Array Oper} {Gf : GH} {y : Oper} {B : List Oper} : ∀ (A : List Oper), (∀ a ∈ A, sfree P ops a y = true) → ∀ (f : Fr), crun P Gf (A ++ y :: B) f →
    (cls y ≤ 1 ∨ msC P y f) ∧ ∀ v, (cls y ≤ 1 → pvOf P y f Gf = some v) → crun P Gf (A ++ B) (put f y.dst v)
  | [], _, f, h => by
    simp only [List.nil_append, crun] at h ⊢
    split at h
    · rename_i h1
      obtain ⟨v, hv, h⟩ := h
      exact ⟨.inl h1, fun u hu => by have := hu h1; rw [hv] at this; cases this; exact h⟩
    · exact ⟨.inr h.1, fun u _ => h.2 u⟩
  | a :: A, hA, f, h => by
    have ha := hA a (by simp)
    unfold sfree at ha
    simp only [Bool.and_eq_true, bne_iff_ne, ne_eq] at ha
    obtain ⟨⟨⟨hp, hap⟩, h5⟩, h5'⟩ := ha
    obtain ⟨s1, s2, s3⟩ := Oper.apart_spec hap
    have ih := fun f' => crun_pull (ops := ops) (Gf := Gf) (B := B) A (fun x hx => hA x (by simp [hx])) f'
    simp only [List.cons_append, crun] at h ⊢
    split at h
    · rename_i h1
      obtain ⟨va, hva, h⟩ := h
      obtain ⟨i1, i2⟩ := ih _ h
      rw [msC_congr (ev_apart s1)] at i1
      refine ⟨i1, fun v hv => ?_⟩
      rw [if_pos h1, pvOf_congr h5 (ev_apart s3)]
      refine ⟨va, hva, ?_⟩
      rw [put_comm f v va (fun d hd e => s2 d e hd)]
      exact i2 v (fun q => by rw [pvOf_congr h5' (ev_apart s1)]; exact hv q)
    · rename_i h1
      obtain ⟨hm, h⟩ := h
      refine ⟨?_, fun v hv => ?_⟩
      · have := (ih _ (h undef)).1
        rw [msC_congr (ev_apart s1)] at this; exact this
      · rw [if_neg h1, msC_congr (ev_apart s3)]
        refine ⟨hm, fun va => ?_⟩
        rw [put_comm f v va (fun d hd e => s2 d e hd)]
        exact (ih _ (h va)).2 v (fun q => by rw [pvOf_congr h5' (ev_apart s1)]; exact hv q)
def sOrd (P : Program) (ops : Array Oper) (ms : Array Nat) : List Nat → Bool
  | [] => true
  | i :: rest => !(edgeB ops i i) && rest.all (fun j => (j != i) && !(edgeB ops j i) && (match ops[i]?, ops[j]? with | some x, some y => reachB ms i j || sfree P ops x y | _, _ => false)) && sOrd P ops ms rest
theorem slin_sound {ops : Array Oper} {Gf : GH} {K : Fr → GH → Prop} (h5 : ops.all (fun o => o.guard.isNone && o.after.all fun e => !(Region.binds .any e) || decide (e.on < ops.size)) = true) :
    ∀ (fuel t : Nat) (L : Array Bool) (R : List Nat) (f : Fr) (G : GH), L.size = ops.size → (∀ i, i < ops.size → (L.getD i false = false ↔ i ∈ R)) → (∀ i ∈ R, i < ops.size) → sOrd P ops (masks ops.toList #[]) R = true → Closed ops L → R.length ≤ fuel →
      Gf.le G → crun P Gf (opsOf ops R) f → srun P Gf K (opsOf ops R) f G → gidx P ops K (Region.linearise.go .any ops fuel t L []) f G := by
  intro fuel
  induction fuel with
  | zero =>
    intro t L R f G hsz hLR hR hord hcl hlen hle hcr h
    have : R = [] := List.eq_nil_of_length_eq_zero (by omega)
    subst this
    simpa [Region.linearise.go, gidx, opsOf, srun] using h
  | succ fuel ih =>
    intro t L R f G hsz hLR hR hord hcl hlen hle hcr h
    simp only [Region.linearise.go]
    change gidx P ops K (match (Region.ready .any ops L)[t % (Region.ready .any ops L).length]? with
      | some i => Region.linearise.go .any ops fuel (t / (Region.ready .any ops L).length) (L.setIfInBounds i true) [i]
      | none => [].reverse) f G
    cases hi : (Region.ready .any ops L)[t % (Region.ready .any ops L).length]? with
    | none =>
      have hnil : Region.ready .any ops L = [] := by
        cases hr : Region.ready .any ops L with
        | nil => rfl
        | cons x xs =>
          rw [hr] at hi
          have hlt : t % (x :: xs).length < (x :: xs).length := Nat.mod_lt _ (by simp)
          rw [List.getElem?_eq_getElem hlt] at hi
          cases hi
      cases R with
      | nil => simpa [gidx, opsOf, srun] using h
      | cons i rest =>
        exfalso
        have hiR := hR i (by simp)
        have : i ∈ Region.ready .any ops L := by
          rw [mem_ready]
          refine ⟨?_, ops[i], by simp [hiR], ?_⟩
          · have h1 := (hLR i hiR).2 (by simp)
            rw [Array.getD_eq_getD_getElem?] at h1 ⊢
            rw [Array.getElem?_eq_getElem (by omega)] at h1 ⊢
            exact h1
          · intro e he hb
            have hedge : edgeB ops e.on i = true := by
              simp only [edgeB, show ops[i]? = some ops[i] from by simp [hiR], Option.map_some, Option.getD_some, Array.any_eq_true', Bool.and_eq_true, beq_iff_eq]
              exact ⟨e, he, hb, rfl⟩
            have hon : e.on < ops.size := by
              rw [Array.all_eq_true_iff_forall_mem] at h5
              have := h5 ops[i] (Array.getElem_mem hiR)
              simp only [Bool.and_eq_true] at this
              have h2 := this.2
              rw [Array.all_eq_true_iff_forall_mem] at h2
              have h3 := h2 e he
              simpa [hb] using h3
            cases hl : L.getD e.on false with
            | true => rfl
            | false =>
              exfalso
              have hmem := (hLR _ hon).1 hl
              simp only [sOrd, Bool.and_eq_true, List.all_eq_true, Bool.not_eq_true'] at hord
              rcases List.mem_cons.1 hmem with e1 | e1
              · rw [e1] at hedge; rw [hedge] at hord; exact absurd hord.1.1 (by simp)
              · have := (hord.1.2 _ e1).1.2
                rw [hedge] at this; exact absurd this (by simp)
        rw [hnil] at this
        simp at this
    | some i =>
      simp only []
      rw [linearise_go_acc, List.reverse_singleton, List.singleton_append]
      have hready := mem_ready.1 (List.mem_of_getElem? hi)
      obtain ⟨hun, o, ho, hpre⟩ := hready
      have hlt : i < ops.size := (Array.getElem?_eq_some_iff.1 ho).1
      have hun' : L.getD i false = false := by
        rw [Array.getD_eq_getD_getElem?, Array.getElem?_eq_getElem (by omega)] at hun ⊢; exact hun
      have hiR := (hLR i hlt).1 hun'
      obtain ⟨A, B, rfl⟩ := List.append_of_mem hiR
      have hpre' : ∀ k, edgeB ops k i = true → L.getD k false = true := by
        intro k hk
        simp only [edgeB, ho, Option.map_some, Option.getD_some, Array.any_eq_true', Bool.and_eq_true, beq_iff_eq] at hk
        obtain ⟨e, he, hb, rfl⟩ := hk
        exact hpre e he hb
      have ordA : ∀ (A : List Nat), sOrd P ops (masks ops.toList #[]) (A ++ i :: B) = true → ∀ a ∈ A, a ≠ i ∧ (match ops[a]?, ops[i]? with | some x, some y => reachB (masks ops.toList #[]) a i || sfree P ops x y | _, _ => false) = true := by
        intro A
        induction A with
        | nil => simp
        | cons b A ihA =>
          intro ho' a ha
          simp only [List.cons_append, sOrd, Bool.and_eq_true, List.all_eq_true] at ho'
          rcases List.mem_cons.1 ha with rfl | ha
          · have := ho'.1.2 i (by simp)
            refine ⟨fun e => ?_, this.2⟩
            have h1 := this.1.1; simp [e] at h1
          · exact ihA ho'.2 a ha
      have ordB : ∀ (A : List Nat), sOrd P ops (masks ops.toList #[]) (A ++ i :: B) = true → sOrd P ops (masks ops.toList #[]) (A ++ B) = true ∧ ∀ b ∈ B, b ≠ i := by
        intro A
        induction A with
        | nil =>
          intro ho'
          simp only [List.nil_append, sOrd, Bool.and_eq_true, List.all_eq_true] at ho'
          refine ⟨ho'.2, fun b hb e => ?_⟩
          have h1 := (ho'.1.2 b hb).1.1; simp [e] at h1
        | cons b A ihA =>
          intro ho'
          simp only [List.cons_append, sOrd, Bool.and_eq_true, List.all_eq_true] at ho' ⊢
          refine ⟨⟨⟨ho'.1.1, fun x hx => ho'.1.2 x (by simp at hx ⊢; rcases hx with hx | hx <;> simp [hx])⟩, (ihA ho'.2).1⟩, (ihA ho'.2).2⟩
      have hfreeA : ∀ x ∈ opsOf ops A, sfree P ops x o = true := by
        intro x hx
        obtain ⟨a, ha, hxa⟩ := List.mem_filterMap.1 hx
        obtain ⟨hne, hm⟩ := ordA A hord a ha
        simp only [hxa, ho, Bool.or_eq_true] at hm
        rcases hm with hm | hm
        · exfalso
          have hl := reach_listed hcl (masks_sound (ops := ops) ops.toList #[] (by simp) (by simp) _ _ hm) hpre'
          have halt := hR a (by simp [ha])
          have := (hLR a halt).2 (by simp [ha])
          rw [hl] at this; cases this
        · exact hm
      have hsplit : opsOf ops (A ++ i :: B) = opsOf ops A ++ o :: opsOf ops B := by simp [opsOf, List.filterMap_append, ho]
      rw [hsplit] at h hcr
      have hp := srun_pull (opsOf ops A) hfreeA f G h
      obtain ⟨hc1, hc2⟩ := crun_pull (opsOf ops A) hfreeA f hcr
      rw [gidx_cons ho]
      have hg : o.guard = none := by
        rw [Array.all_eq_true_iff_forall_mem] at h5
        have := h5 o (Array.mem_of_getElem? ho)
        simp only [Bool.and_eq_true, Option.isNone_iff_eq_none] at this
        exact this.1
      have hw : Region.wanted o (gyield ops f) = true := by unfold Region.wanted; rw [hg]
      rw [if_pos hw]
      refine vop_mono (sop_vop hle hc1 hp) fun v G' ⟨hle', hpv, hm⟩ => ?_
      refine ih _ _ (A ++ B) _ _ (by simpa using hsz) ?_ (fun x hx => hR x (by simp at hx ⊢; rcases hx with hx | hx <;> simp [hx])) (ordB A hord).1 ?_ (by simp at hlen ⊢; omega) hle' (by have := hc2 v hpv; simpa [opsOf, List.filterMap_append] using this) (by simpa [opsOf, List.filterMap_append] using hm)
      · intro j hj
        by_cases e : i = j
        · subst e
          have : (L.setIfInBounds i true).getD i false = true := by simp [hsz, hlt]
          rw [this]
          simp only [Bool.true_eq_false, false_iff, List.mem_append, not_or]
          exact ⟨fun hm => (ordA A hord i hm).1 rfl, fun hm => (ordB A hord).2 i hm rfl⟩
        · rw [getD_set_ne false e, hLR j hj]
          simp [Ne.symm e]
      · intro j hj k hk
        by_cases e : i = j
        · subst e; exact getD_set_true (hpre' k hk)
        · rw [getD_set_ne false e] at hj
          exact getD_set_true (hcl j hj k hk)
def valuesOnly (l : List Oper) : Bool := l.all fun o => o.guard.isNone && decide (cls o ≤ 1)
def cellsOnly (P : Program) : List Nat → List Oper → Bool
  | _, [] => true
  | S, o :: l => o.guard.isNone && ((newOk P o && (match o.dst with | some d => cellsOnly P (if isMs o then S.filter (· != d) else d :: S) l | none => false)) || (match o.op, o.dst with | .store _ (.tmp p) _, none => S.contains p && cellsOnly P S l | _, _ => false) || (isTot o && (match o.dst with | some d => cellsOnly P (S.filter (· != d)) l | none => false)))
theorem srun_cells {ops : Array Oper} {Gf : GH} {K : Fr → GH → Prop} : ∀ (l : List Oper) (S : List Nat) (f : Fr) (G : GH), cellsOnly P S l = true → Gf.le G → (∀ p ∈ S, ∃ a, f p = .pointer (some a) ∧ Gf a.block = none) → gops P ops K l f G → srun P Gf K l f G
  | [], S, f, G, _, _, _, h => h
  | o :: l, S, f, G, hc, hle, hS, h => by
    simp only [cellsOnly, Bool.and_eq_true, Bool.or_eq_true, Option.isNone_iff_eq_none] at hc
    obtain ⟨hg, hc⟩ := hc
    have hw : Region.wanted o (gyield ops f) = true := by unfold Region.wanted; rw [hg]
    simp only [gops, if_pos hw] at h
    simp only [srun]
    have hkeep : ∀ (d : Nat) (v : Value), ∀ p ∈ S.filter (· != d), ∃ a, put f (some d) v p = .pointer (some a) ∧ Gf a.block = none := by
      intro d v p hp
      obtain ⟨hp1, hp2⟩ := List.mem_filter.1 hp
      have e : p ≠ d := by simpa using hp2
      obtain ⟨r', h1, h2⟩ := hS p hp1
      exact ⟨r', by simp [put, e, h1], h2⟩
    rcases hc with (⟨hn, hc⟩ | hc) | ⟨ht, hc⟩
    rotate_right 1
    · obtain ⟨u, hu⟩ := tot_pv (P := P) ht f
      have h0 : cls o ≤ 1 := by rw [tot_cls ht]; decide
      unfold sop
      rw [if_pos h0, hu]
      rw [vop_pv h0, hu] at h
      split at hc
      · rename_i d hd
        have hk : gops P ops K l (put f o.dst u) G := h
        show srun P Gf K l (put f o.dst u) G
        rw [hd] at hk ⊢
        exact srun_cells l _ _ _ hc hle (hkeep d u) hk
      · cases hc
    · have h3 := newOk_cls hn
      unfold sop
      rw [if_neg (by omega), if_pos hn]
      obtain ⟨ob, mk, hv, hmk⟩ := vop_new (P := P) hn f
      replace h := vop_nop h
      rw [hv] at h ⊢
      split at hc
      · rename_i d hd
        refine vnew_mono' h fun r hr hk => ?_
        rw [hd] at hk ⊢
        refine srun_cells l _ _ _ hc (le_trans' hle (le_put' hr _)) ?_ hk
        cases hms : isMs o
        · rw [hmk hms]
          simp only [hms, Bool.false_eq_true, if_false]
          intro p hp
          by_cases e : p = d
          · exact ⟨⟨r, 0, none⟩, by simp [put, e], le_none hle hr⟩
          · rcases List.mem_cons.1 hp with q | q
            · exact absurd q e
            · obtain ⟨r', h1, h2⟩ := hS p q
              exact ⟨r', by simp [put, e, h1], h2⟩
        · simp only [if_true]
          exact hkeep d _
      · cases hc
    · split at hc
      · rename_i T p x ho hd
        simp only [Bool.and_eq_true, List.contains_iff_mem] at hc
        obtain ⟨r, h1, h2⟩ := hS p (by simpa using hc.1)
        have hst : isStore o = true := by unfold isStore; rw [ho]
        have h4 := store_cls hst
        have hxn : ¬ newOk P o = true := fun q => by have := (newOk_cls q).2.2; rw [hst] at this; cases this
        unfold sop
        rw [if_neg (by omega), if_neg hxn, ho]
        have ha : ev f (.tmp p) = .pointer (some r) := h1
        refine ⟨⟨_, ha, h2⟩, ?_⟩
        obtain ⟨c, vs, hs⟩ := vop_store (P := P) ho ha
        rw [hs] at h ⊢
        obtain ⟨hcc, k1, cc, e, k2, k3, hk⟩ := h
        refine ⟨hcc, k1, cc, e, k2, k3, ?_⟩
        rw [hd] at hk ⊢
        refine srun_cells l S _ _ hc.2 ?_ hS hk
        intro b o' hb
        unfold GH.put; split
        · rename_i e; subst e; rw [h2] at hb; cases hb
        · exact hle _ _ hb
      · cases hc
theorem srun_values {ops : Array Oper} {Gf : GH} {K : Fr → GH → Prop} {B : List Oper} (hB : cellsOnly P [] B = true) : ∀ (l : List Oper) (f : Fr), valuesOnly l = true → gops P ops K (l ++ B) f Gf → srun P Gf K (l ++ B) f Gf
  | [], f, _, h => srun_cells B [] f Gf hB (le_refl' Gf) (by simp) h
  | o :: l, f, hc, h => by
    simp only [valuesOnly, List.all_cons, Bool.and_eq_true, Option.isNone_iff_eq_none, decide_eq_true_eq] at hc
    have hw : Region.wanted o (gyield ops f) = true := by unfold Region.wanted; rw [hc.1.1]
    simp only [List.cons_append, gops, if_pos hw] at h
    simp only [List.cons_append, srun]
    unfold sop
    rw [if_pos hc.1.2]
    rw [vop_pv hc.1.2] at h
    cases hv : pvOf P o f Gf with
    | none => rw [hv] at h; exact h.elim
    | some v => rw [hv] at h; exact srun_values hB l _ (by unfold valuesOnly; exact hc.2) h
def tmpNe (d : Nat) : Operand → Bool | .tmp t => t != d | _ => true
def msFixed (B : List Oper) : Bool := B.all fun o => match o.op with | .makeSlice _ x y => (B.all fun w => (match w.dst with | some d => tmpNe d x && tmpNe d y | none => true)) | _ => true
def msB (P : Program) : List Oper → Fr → Prop
  | [], _ => True
  | o :: l, f => msC P o f ∧ msB P l f
def msAll (P : Program) (G : GH) (B : List Oper) : List Oper → Fr → Prop
  | [], f => msB P B f
  | o :: l, f => ∃ v, pvOf P o f G = some v ∧ msAll P G B l (put f o.dst v)
theorem msB_mem {B : List Oper} {f : Fr} (h : msB P B f) : ∀ o ∈ B, msC P o f := by
  induction B with
  | nil => simp
  | cons o l ih =>
    intro w hw
    rcases List.mem_cons.1 hw with rfl | hw
    · exact h.1
    · exact ih h.2 w hw
theorem msC_put {B : List Oper} (hf : msFixed B = true) {o w : Oper} (ho : o ∈ B) (hw : w ∈ B) {f : Fr} (v : Value) (h : msC P o f) : msC P o (put f w.dst v) := by
  unfold msC at *
  split
  · rename_i T x y hop
    rw [hop] at h
    have h1 := List.all_eq_true.1 hf o ho
    rw [hop] at h1
    have h2 := List.all_eq_true.1 h1 w hw
    have key : ∀ x : Operand, (∀ d, w.dst = some d → tmpNe d x = true) → ev (put f w.dst v) x = ev f x := by
      intro x hx
      refine ev_put fun k hk e => ?_
      have := hx k hk
      rw [e] at this
      simp [tmpNe] at this
    rw [key x (fun d hd => by rw [hd] at h2; simp at h2; exact h2.1), key y (fun d hd => by rw [hd] at h2; simp at h2; exact h2.2)]
    exact h
  · trivial
theorem crun_cells {Gf : GH} {B : List Oper} (hf : msFixed B = true) : ∀ (l : List Oper) (S : List Nat) (f : Fr), (∀ o ∈ l, o ∈ B) → cellsOnly P S l = true → (∀ o ∈ l, msC P o f) → crun P Gf l f
  | [], S, f, _, _, _ => trivial
  | o :: l, S, f, hB, hc, hm => by
    have next : ∀ v, ∀ w ∈ l, msC P w (put f o.dst v) := fun v w hw => msC_put hf (hB w (by simp [hw])) (hB o (by simp)) v (hm w (by simp [hw]))
    have hB' : ∀ w ∈ l, w ∈ B := fun w hw => hB w (by simp [hw])
    simp only [cellsOnly, Bool.and_eq_true, Bool.or_eq_true, Option.isNone_iff_eq_none] at hc
    obtain ⟨hg, hc⟩ := hc
    simp only [crun]
    rcases hc with (⟨hn, hc⟩ | hc) | ⟨ht, hc⟩
    · have h3 := newOk_cls hn
      rw [if_neg (by omega)]
      split at hc
      · exact ⟨hm o (by simp), fun v => crun_cells hf l _ _ hB' hc (next v)⟩
      · cases hc
    · split at hc
      · rename_i T p x ho hd
        simp only [Bool.and_eq_true] at hc
        have hst : isStore o = true := by unfold isStore; rw [ho]
        rw [if_neg (by have := store_cls hst; omega)]
        exact ⟨hm o (by simp), fun v => crun_cells hf l _ _ hB' hc.2 (next v)⟩
      · cases hc
    · obtain ⟨u, hu⟩ := tot_pv (P := P) ht f
      rw [if_pos (by rw [tot_cls ht]; decide), hu]
      split at hc
      · exact ⟨u, rfl, crun_cells hf l _ _ hB' hc (next u)⟩
      · cases hc
theorem crun_values {Gf : GH} {B : List Oper} (hf : msFixed B = true) (hB : cellsOnly P [] B = true) : ∀ (l : List Oper) (f : Fr), valuesOnly l = true → msAll P Gf B l f → crun P Gf (l ++ B) f
  | [], f, _, h => crun_cells hf B [] f (fun _ h => h) hB (msB_mem h)
  | o :: l, f, hc, h => by
    simp only [valuesOnly, List.all_cons, Bool.and_eq_true, Option.isNone_iff_eq_none, decide_eq_true_eq] at hc
    obtain ⟨v, hv, h⟩ := h
    simp only [List.cons_append, crun]
    rw [if_pos hc.1.2]
    exact ⟨v, hv, crun_values hf hB l _ (by unfold valuesOnly; exact hc.2) h⟩
def noMs (B : List Oper) : Bool := B.all fun o => !isMs o
theorem msAll_none {ops : Array Oper} {Gf : GH} {K : Fr → GH → Prop} {B : List Oper} (hB : noMs B = true) : ∀ (l : List Oper) (f : Fr), valuesOnly l = true → gops P ops K (l ++ B) f Gf → msAll P Gf B l f
  | [], f, _, _ => by
    show msB P B f
    have key : ∀ l : List Oper, (∀ o ∈ l, isMs o = false) → msB P l f := by
      intro l
      induction l with
      | nil => intro _; trivial
      | cons o l ih =>
        intro h
        refine ⟨?_, ih fun w hw => h w (by simp [hw])⟩
        have := h o (by simp)
        unfold isMs at this; unfold msC
        split
        · rename_i ho; rw [ho] at this; cases this
        · trivial
    exact key B fun o ho => by have := List.all_eq_true.1 hB o ho; simpa using this
  | o :: l, f, hc, h => by
    simp only [valuesOnly, List.all_cons, Bool.and_eq_true, Option.isNone_iff_eq_none, decide_eq_true_eq] at hc
    have hw : Region.wanted o (gyield ops f) = true := by unfold Region.wanted; rw [hc.1.1]
    simp only [List.cons_append, gops, if_pos hw] at h
    rw [vop_pv hc.1.2] at h
    cases hv : pvOf P o f Gf with
    | none => rw [hv] at h; exact h.elim
    | some v => rw [hv] at h; exact ⟨v, hv, msAll_none hB l _ (by unfold valuesOnly; exact hc.2) h⟩
def simpleOk (P : Program) (ops : Array Oper) (A B : List Nat) : Bool := sOrd P ops (masks ops.toList #[]) (A ++ B) && decide ((A ++ B).length = ops.size) && (A ++ B).all (fun i => decide (i < ops.size)) && (List.range ops.size).all (fun i => (A ++ B).contains i) && ops.all (fun o => o.guard.isNone && o.after.all fun e => !(Region.binds .any e) || decide (e.on < ops.size)) && valuesOnly (opsOf ops A) && cellsOnly P [] (opsOf ops B) && msFixed (opsOf ops B)
theorem simple_sound {ops : Array Oper} {id : Nat} {Q : Exit → Fr → GH → Prop} {f : Fr} {G : GH} (A B : List Nat) (hm : P.follows .mixedOrders = true) (hok : simpleOk P ops A B = true)
    (hM : msAll P G (opsOf ops B) (opsOf ops A) f) (h : gops P ops (Q .normal) (opsOf ops (A ++ B)) f G) : awp P (.region id ops true) Q f G := by
  intro t
  simp only [Region.schedule, hm, Bool.true_or, if_true]
  simp only [simpleOk, Bool.and_eq_true, decide_eq_true_eq, List.all_eq_true, List.mem_range] at hok
  obtain ⟨⟨⟨⟨⟨⟨⟨hord, hlen⟩, hlt⟩, hcov⟩, h5⟩, hA⟩, hB⟩, hF⟩ := hok
  have hs : srun P G (Q .normal) (opsOf ops (A ++ B)) f G := by
    have e : opsOf ops (A ++ B) = opsOf ops A ++ opsOf ops B := by simp [opsOf, List.filterMap_append]
    rw [e] at h ⊢
    exact srun_values hB _ _ hA h
  have hcr : crun P G (opsOf ops (A ++ B)) f := by
    have e : opsOf ops (A ++ B) = opsOf ops A ++ opsOf ops B := by simp [opsOf, List.filterMap_append]
    rw [e]; exact crun_values hF hB _ _ hA hM
  refine slin_sound h5 ops.size t _ (A ++ B) f G (by simp) ?_ hlt hord ?_ (by omega) (le_refl' G) hcr hs
  · intro i hi
    have : (Array.replicate ops.size false).getD i false = false := by simp [Array.getElem?_replicate, hi]
    simp only [this, true_iff]
    simpa using hcov i hi
  · intro j hj
    have : (Array.replicate ops.size false).getD j false = false := by
      rw [Array.getD_eq_getD_getElem?, Array.getElem?_replicate]; split <;> rfl
    rw [this] at hj; cases hj
theorem Xsimple_introM {rs : Array ResultVar} {K : Value → GH → Prop} {s : List It} {f : Fr} {G : GH} {id : Nat} {l : List Oper} (A B : List Nat) (hm : P.follows .mixedOrders = true) (hok : simpleOk P l.toArray A B = true)
    (hM : msAll P G (B.filterMap (l[·]?)) (A.filterMap (l[·]?)) f) (h : Y P rs K s l none ((A ++ B).filterMap (l[·]?)) f G) : Xdraw P rs K s id l f G := by
  have e : ∀ R, opsOf l.toArray R = R.filterMap (l[·]?) := by intro R; unfold opsOf; congr 1; funext i; simp
  refine simple_sound (id := id) A B hm hok (by rw [e, e]; exact hM) ?_
  rw [e]; exact h
theorem Xsimple_intro {rs : Array ResultVar} {K : Value → GH → Prop} {s : List It} {f : Fr} {G : GH} {id : Nat} {l : List Oper} (A B : List Nat) (hm : P.follows .mixedOrders = true) (hok : (simpleOk P l.toArray A B && noMs (B.filterMap (l[·]?))) = true)
    (h : Y P rs K s l none ((A ++ B).filterMap (l[·]?)) f G) : Xdraw P rs K s id l f G := by
  obtain ⟨hok, hn⟩ := Bool.and_eq_true _ _ ▸ hok
  refine Xsimple_introM A B hm hok ?_ h
  have hA : valuesOnly (A.filterMap (l[·]?)) = true := by
    have e : opsOf l.toArray A = A.filterMap (l[·]?) := by unfold opsOf; congr 1; funext i; simp
    rw [← e]
    simp only [simpleOk, Bool.and_eq_true] at hok
    exact hok.1.1.2
  have h' : gops P l.toArray (Qof P rs K s .normal) (A.filterMap (l[·]?) ++ B.filterMap (l[·]?)) f G := by
    rw [← List.filterMap_append]; exact h
  exact msAll_none hn _ f hA h'
def simplePick (ops : Array Oper) (ms : Array Nat) (rest : List Nat) (i : Nat) : Bool :=
  !(edgeB ops i i) && rest.all (fun j => (j == i) || (!(edgeB ops j i) && (match ops[i]?, ops[j]? with | some x, some y => reachB ms i j || ((decide (cls x ≤ 1) || ((cls x == 3 || isMs x) && (cls y == 3 || isMs y)) || (isStore x && (cls y == 3 || isMs y)) || isTot y) && x.apart ops y) | _, _ => false)))
def simpleGo (ops : Array Oper) (ms : Array Nat) : Nat → List Nat → List Nat
  | 0, _ => []
  | n + 1, rest => match rest.find? (simplePick ops ms rest) with
    | some i => i :: simpleGo ops ms n (rest.filter (· != i))
    | none => []
def ptrs (Gf : GH) : List Nat → Fr → Prop
  | [], _ => True
  | p :: S, f => (∃ a, f p = .pointer (some a) ∧ Gf a.block = none) ∧ ptrs Gf S f
def msAll2 (P : Program) (Gf : GH) (B : List Oper) (S : List Nat) : List Oper → Fr → Prop
  | [], f => msB P B f ∧ ptrs Gf S f
  | o :: l, f => ∃ v, pvOf P o f Gf = some v ∧ msAll2 P Gf B S l (put f o.dst v)
theorem ptrs_mem {Gf : GH} {f : Fr} : ∀ {S : List Nat}, ptrs Gf S f → ∀ p ∈ S, ∃ a, f p = .pointer (some a) ∧ Gf a.block = none
  | [], _, p, hp => by cases hp
  | q :: S, h, p, hp => by
    rcases List.mem_cons.1 hp with rfl | hp
    · exact h.1
    · exact ptrs_mem h.2 p hp
theorem srun_values2 {ops : Array Oper} {Gf G : GH} {K : Fr → GH → Prop} {B : List Oper} {S : List Nat} (hB : cellsOnly P S B = true) (hle : Gf.le G) : ∀ (l : List Oper) (f : Fr), valuesOnly l = true → msAll2 P Gf B S l f → gops P ops K (l ++ B) f G → srun P Gf K (l ++ B) f G
  | [], f, _, hM, h => srun_cells B S f G hB hle (ptrs_mem hM.2) h
  | o :: l, f, hc, hM, h => by
    simp only [valuesOnly, List.all_cons, Bool.and_eq_true, Option.isNone_iff_eq_none, decide_eq_true_eq] at hc
    obtain ⟨v, hv, hM⟩ := hM
    have hw : Region.wanted o (gyield ops f) = true := by unfold Region.wanted; rw [hc.1.1]
    simp only [List.cons_append, gops, if_pos hw] at h
    simp only [List.cons_append, srun]
    unfold sop
    rw [if_pos hc.1.2, hv]
    rw [vop_pv hc.1.2, pvOf_le hle hv] at h
    exact srun_values2 hB hle l _ (by unfold valuesOnly; exact hc.2) hM h
theorem crun_values2 {Gf : GH} {B : List Oper} {S : List Nat} (hf : msFixed B = true) (hB : cellsOnly P S B = true) : ∀ (l : List Oper) (f : Fr), valuesOnly l = true → msAll2 P Gf B S l f → crun P Gf (l ++ B) f
  | [], f, _, h => crun_cells hf B S f (fun _ h => h) hB (msB_mem h.1)
  | o :: l, f, hc, h => by
    simp only [valuesOnly, List.all_cons, Bool.and_eq_true, Option.isNone_iff_eq_none, decide_eq_true_eq] at hc
    obtain ⟨v, hv, h⟩ := h
    simp only [List.cons_append, crun]
    rw [if_pos hc.1.2]
    exact ⟨v, hv, crun_values2 hf hB l _ (by unfold valuesOnly; exact hc.2) h⟩
def simpleOk2 (P : Program) (ops : Array Oper) (A B : List Nat) (S : List Nat) : Bool := sOrd P ops (masks ops.toList #[]) (A ++ B) && decide ((A ++ B).length = ops.size) && (A ++ B).all (fun i => decide (i < ops.size)) && (List.range ops.size).all (fun i => (A ++ B).contains i) && ops.all (fun o => o.guard.isNone && o.after.all fun e => !(Region.binds .any e) || decide (e.on < ops.size)) && valuesOnly (opsOf ops A) && cellsOnly P S (opsOf ops B) && msFixed (opsOf ops B)
theorem simple_sound2 {ops : Array Oper} {id : Nat} {Q : Exit → Fr → GH → Prop} {f : Fr} {Gf G : GH} (A B S : List Nat) (hm : P.follows .mixedOrders = true) (hle : Gf.le G) (hok : simpleOk2 P ops A B S = true)
    (hM : msAll2 P Gf (opsOf ops B) S (opsOf ops A) f) (h : gops P ops (Q .normal) (opsOf ops (A ++ B)) f G) : awp P (.region id ops true) Q f G := by
  intro t
  simp only [Region.schedule, hm, Bool.true_or, if_true]
  simp only [simpleOk2, Bool.and_eq_true, decide_eq_true_eq, List.all_eq_true, List.mem_range] at hok
  obtain ⟨⟨⟨⟨⟨⟨⟨hord, hlen⟩, hlt⟩, hcov⟩, h5⟩, hA⟩, hB⟩, hF⟩ := hok
  have e : opsOf ops (A ++ B) = opsOf ops A ++ opsOf ops B := by simp [opsOf, List.filterMap_append]
  have hs : srun P Gf (Q .normal) (opsOf ops (A ++ B)) f G := by
    rw [e] at h ⊢
    exact srun_values2 hB hle _ _ hA hM h
  have hcr : crun P Gf (opsOf ops (A ++ B)) f := by
    rw [e]; exact crun_values2 hF hB _ _ hA hM
  refine slin_sound h5 ops.size t _ (A ++ B) f G (by simp) ?_ hlt hord ?_ (by omega) hle hcr hs
  · intro i hi
    have : (Array.replicate ops.size false).getD i false = false := by simp [Array.getElem?_replicate, hi]
    simp only [this, true_iff]
    simpa using hcov i hi
  · intro j hj
    have : (Array.replicate ops.size false).getD j false = false := by
      rw [Array.getD_eq_getD_getElem?, Array.getElem?_replicate]; split <;> rfl
    rw [this] at hj; cases hj
theorem Xsimple_introG {rs : Array ResultVar} {K : Value → GH → Prop} {s : List It} {f : Fr} {G : GH} {id : Nat} {l : List Oper} (Gf : GH) (A B S : List Nat) (hm : P.follows .mixedOrders = true) (hle : Gf.le G) (hok : simpleOk2 P l.toArray A B S = true)
    (hM : msAll2 P Gf (B.filterMap (l[·]?)) S (A.filterMap (l[·]?)) f) (h : Y P rs K s l none ((A ++ B).filterMap (l[·]?)) f G) : Xdraw P rs K s id l f G := by
  have e : ∀ R, opsOf l.toArray R = R.filterMap (l[·]?) := by intro R; unfold opsOf; congr 1; funext i; simp
  refine simple_sound2 (id := id) A B S hm hle hok (by rw [e, e]; exact hM) ?_
  rw [e]; exact h
def ready (P : Program) (Gf : GH) : List Oper → Fr → Prop
  | [], _ => True
  | o :: l, f => (cls o ≤ 1 → ∃ v, pvOf P o f Gf = some v ∧ ready P Gf l (put f o.dst v)) ∧ (match o.op with | .store _ p _ => (∃ a, ev f p = .pointer (some a) ∧ Gf a.block = none) ∧ ready P Gf l f | _ => True)
def rOk (l : List Oper) : Bool := l.all fun o => o.guard.isNone && (decide (cls o ≤ 1) || (isStore o && o.dst.isNone))
theorem ready_srun {ops : Array Oper} {Gf : GH} {K : Fr → GH → Prop} : ∀ (l : List Oper) (f : Fr) (G : GH), rOk l = true → Gf.le G → ready P Gf l f → gops P ops K l f G → srun P Gf K l f G
  | [], f, G, _, _, _, h => h
  | o :: l, f, G, hc, hle, hM, h => by
    simp only [rOk, List.all_cons, Bool.and_eq_true, Option.isNone_iff_eq_none, Bool.or_eq_true, decide_eq_true_eq] at hc
    obtain ⟨⟨hg, ho⟩, hl⟩ := hc
    have hl' : rOk l = true := by unfold rOk; simp only [List.all_eq_true, Bool.and_eq_true, Bool.or_eq_true, Option.isNone_iff_eq_none, decide_eq_true_eq] at hl ⊢; exact hl
    have hw : Region.wanted o (gyield ops f) = true := by unfold Region.wanted; rw [hg]
    simp only [gops, if_pos hw] at h
    simp only [srun]
    obtain ⟨h1, h2⟩ := hM
    rcases ho with h0 | ⟨hst, hd⟩
    · obtain ⟨v, hv, hM⟩ := h1 h0
      unfold sop
      rw [if_pos h0, hv]
      rw [vop_pv h0, pvOf_le hle hv] at h
      exact ready_srun l _ _ hl' hle hM h
    · have h4 := store_cls hst
      have hxn : ¬ newOk P o = true := fun q => by have := (newOk_cls q).2.2; rw [hst] at this; cases this
      have es : ∃ T p w, o.op = .store T p w := by
        unfold isStore at hst
        split at hst
        · exact ⟨_, _, _, by assumption⟩
        · cases hst
      obtain ⟨T, p, w, hop⟩ := es
      rw [hop] at h2
      obtain ⟨⟨a, ha, hf⟩, hM⟩ := h2
      unfold sop
      rw [if_neg (by omega), if_neg hxn, hop]
      refine ⟨⟨a, ha, hf⟩, ?_⟩
      obtain ⟨c, vs, hs⟩ := vop_store (P := P) hop ha
      rw [hs] at h ⊢
      obtain ⟨hcc, k1, cc, e, k2, k3, hk⟩ := h
      refine ⟨hcc, k1, cc, e, k2, k3, ?_⟩
      rw [hd] at hk ⊢
      refine ready_srun l _ _ hl' ?_ hM hk
      intro b o' hb
      unfold GH.put; split
      · rename_i e; subst e; rw [hf] at hb; cases hb
      · exact hle _ _ hb
theorem ready_crun {Gf : GH} : ∀ (l : List Oper) (f : Fr), rOk l = true → ready P Gf l f → crun P Gf l f
  | [], f, _, _ => trivial
  | o :: l, f, hc, hM => by
    simp only [rOk, List.all_cons, Bool.and_eq_true, Option.isNone_iff_eq_none, Bool.or_eq_true, decide_eq_true_eq] at hc
    obtain ⟨⟨hg, ho⟩, hl⟩ := hc
    have hl' : rOk l = true := by unfold rOk; simp only [List.all_eq_true, Bool.and_eq_true, Bool.or_eq_true, Option.isNone_iff_eq_none, decide_eq_true_eq] at hl ⊢; exact hl
    obtain ⟨h1, h2⟩ := hM
    simp only [crun]
    rcases ho with h0 | ⟨hst, hd⟩
    · obtain ⟨v, hv, hM⟩ := h1 h0
      rw [if_pos h0]
      exact ⟨v, hv, ready_crun l _ hl' hM⟩
    · have h4 := store_cls hst
      rw [if_neg (by omega)]
      have es : ∃ T p w, o.op = .store T p w := by
        unfold isStore at hst
        split at hst
        · exact ⟨_, _, _, by assumption⟩
        · cases hst
      obtain ⟨T, p, w, hop⟩ := es
      rw [hop] at h2
      refine ⟨by unfold msC; rw [hop]; trivial, fun v => ?_⟩
      rw [hd]
      exact ready_crun l _ hl' h2.2
def readyOk (P : Program) (ops : Array Oper) (R : List Nat) : Bool := sOrd P ops (masks ops.toList #[]) R && decide (R.length = ops.size) && R.all (fun i => decide (i < ops.size)) && (List.range ops.size).all (fun i => R.contains i) && ops.all (fun o => o.guard.isNone && o.after.all fun e => !(Region.binds .any e) || decide (e.on < ops.size)) && rOk (opsOf ops R)
theorem ready_sound {ops : Array Oper} {id : Nat} {Q : Exit → Fr → GH → Prop} {f : Fr} {Gf G : GH} (R : List Nat) (hm : P.follows .mixedOrders = true) (hle : Gf.le G) (hok : readyOk P ops R = true)
    (hM : ready P Gf (opsOf ops R) f) (h : gops P ops (Q .normal) (opsOf ops R) f G) : awp P (.region id ops true) Q f G := by
  intro t
  simp only [Region.schedule, hm, Bool.true_or, if_true]
  simp only [readyOk, Bool.and_eq_true, decide_eq_true_eq, List.all_eq_true, List.mem_range] at hok
  obtain ⟨⟨⟨⟨⟨hord, hlen⟩, hlt⟩, hcov⟩, h5⟩, hA⟩ := hok
  have hs := ready_srun _ f G hA hle hM h
  have hcr := ready_crun _ f hA hM
  refine slin_sound h5 ops.size t _ R f G (by simp) ?_ hlt hord ?_ (by omega) hle hcr hs
  · intro i hi
    have : (Array.replicate ops.size false).getD i false = false := by simp [Array.getElem?_replicate, hi]
    simp only [this, true_iff]
    simpa using hcov i hi
  · intro j hj
    have : (Array.replicate ops.size false).getD j false = false := by
      rw [Array.getD_eq_getD_getElem?, Array.getElem?_replicate]; split <;> rfl
    rw [this] at hj; cases hj
theorem Xready_intro {rs : Array ResultVar} {K : Value → GH → Prop} {s : List It} {f : Fr} {G : GH} {id : Nat} {l : List Oper} (Gf : GH) (R : List Nat) (hm : P.follows .mixedOrders = true) (hle : Gf.le G) (hok : readyOk P l.toArray R = true)
    (hM : ready P Gf (R.filterMap (l[·]?)) f) (h : Y P rs K s l none (R.filterMap (l[·]?)) f G) : Xdraw P rs K s id l f G := by
  have e : ∀ R, opsOf l.toArray R = R.filterMap (l[·]?) := by intro R; unfold opsOf; congr 1; funext i; simp
  refine ready_sound (id := id) R hm hle hok (by rw [e]; exact hM) ?_
  rw [e]; exact h
theorem ready_v {Gf : GH} {o : Oper} {l : List Oper} {f : Fr} (v : Value) (h0 : cls o ≤ 1) (hv : pvOf P o f Gf = some v) (h : ready P Gf l (put f o.dst v)) : ready P Gf (o :: l) f := by
  refine ⟨fun _ => ⟨v, hv, h⟩, ?_⟩
  split
  · rename_i hop; unfold cls at h0; rw [hop] at h0; exact absurd h0 (by simp)
  · trivial
theorem ready_s {Gf : GH} {T : TypeId} {p x : Operand} {t0 : TypeId} {pos : String} {aft : Array Edge} {l : List Oper} {f : Fr} (a : Addr) (ha : ev f p = .pointer (some a)) (hf : Gf a.block = none) (h : ready P Gf l f) : ready P Gf (⟨none, .store T p x, t0, pos, aft, none⟩ :: l) f :=
  ⟨fun q => absurd q (by unfold cls; simp), ⟨a, ha, hf⟩, h⟩
def GH.del (G : GH) (b : Nat) : GH := fun c => if c = b then none else G c
theorem del_le (G : GH) (b : Nat) : (G.del b).le G := by
  intro c o h; unfold GH.del at h; split at h
  · cases h
  · exact h
theorem del_self (G : GH) (b : Nat) : (G.del b) b = none := if_pos rfl
theorem del_ne {G : GH} {b c : Nat} (h : c ≠ b) : (G.del b) c = G c := if_neg h
def simpleOrder (l : List Oper) : List (List Nat) :=
  let A := (List.range l.length).foldl (fun acc i => match l[i]? with | some o => if decide (cls o ≤ 1) && (List.range l.length).all (fun k => !(edgeB l.toArray k i) || acc.contains k) then acc ++ [i] else acc | none => acc) []
  let B := (List.range l.length).filter fun i => !A.contains i
  [simpleGo l.toArray (masks l #[]) A.length A, simpleGo l.toArray (masks l #[]) B.length B]
end Go.GL
