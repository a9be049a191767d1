/- A part of a proof: Walk and Length are as specified for all roads and arcs (statement DrivesWalkedUptoCardSaid) -/
import Derived.Test.YtjhfhacdjmokaaaGreatDoorDwGlF
import Derived.Test.YtjhfhacdjmokaaaGreatDoorDwGlH
import Derived.Test.YtjhfhacdjmokaaaGreatDoorDwGlL
set_option linter.unusedSimpArgs false
set_option linter.unusedVariables false
set_option linter.unusedSectionVars false
namespace Go.GL
open Go Go.RowKit
variable {P : Program}
theorem put_is (G : GH) (b : Nat) (o : Obj × Bool) : (G.put b o) b = some o := put_self G b o
theorem put_not (G : GH) {b c : Nat} (o : Obj × Bool) (h : c ≠ b) : (G.put b o) c = G c := put_ne G o h
theorem put_none_eq (G : GH) (b c : Nat) (o : Obj × Bool) : ((G.put b o) c = none) = (c ≠ b ∧ G c = none) := by
  apply propext; unfold GH.put
  by_cases h : c = b <;> simp [h]
def gcO (x : Option (Obj × Bool)) (o : Nat) : Option Value := match x with | some (.cells c _ _, _) => c[o]? | _ => none
def gsO (x : Option (Obj × Bool)) (o n : Nat) : Option (List Value) := match x with | some (.cells c _ _, _) => if o + n ≤ c.size then some ((c.toList.drop o).take n) else none | _ => none
theorem gcell_O (G : GH) (b o : Nat) : gcell G ⟨b, o, none⟩ = gcO (G b) o := by
  unfold gcell gcO
  cases G b with
  | none => rfl
  | some x => obtain ⟨x, t⟩ := x; cases x <;> rfl
theorem gcells_O (G : GH) (b o n : Nat) : gcells G ⟨b, o, none⟩ n = gsO (G b) o n := by
  unfold gcells gsO
  cases G b with
  | none => rfl
  | some x => obtain ⟨x, t⟩ := x; cases x <;> simp
theorem gcO_at (cs : List Value) (e : TypeId) (fr : Nat × Nat) (t : Bool) (o : Nat) : gcO (some (.cells cs.toArray e fr, t)) o = cs[o]? := by simp [gcO]
theorem gsO_at (cs : List Value) (e : TypeId) (fr : Nat × Nat) (t : Bool) (o n : Nat) : gsO (some (.cells cs.toArray e fr, t)) o n = if o + n ≤ cs.length then some ((cs.drop o).take n) else none := by simp [gsO]
def kn (G : GH) (b : Nat) : Prop := ∃ x, G b = some x
theorem kn_put (G : GH) (b c : Nat) (o : Obj × Bool) (h : kn G c) : kn (G.put b o) c := by
  unfold kn GH.put at *; split
  · exact ⟨_, rfl⟩
  · exact h
theorem kn_is (G : GH) (b : Nat) (o : Obj × Bool) : kn (G.put b o) b := ⟨o, put_self G b o⟩
theorem kn_le {G G' : GH} (h : G.le G') {b : Nat} (hk : kn G b) : kn G' b := let ⟨x, hx⟩ := hk; ⟨x, h _ _ hx⟩
theorem kn_ne {G : GH} {r b : Nat} (hr : G r = none) (hk : kn G b) : b ≠ r := by rintro rfl; obtain ⟨x, hx⟩ := hk; rw [hr] at hx; cases hx
theorem kn_of {G : GH} {b : Nat} {x : Obj × Bool} (h : G b = some x) : kn G b := ⟨x, h⟩
theorem gcell_pk {G : GH} {r : Nat} {o : Obj × Bool} {a : Addr} (hr : G r = none) (hk : kn G a.block) : gcell (G.put r o) a = gcell G a := by
  unfold gcell; rw [put_ne _ _ (kn_ne hr hk)]
theorem gcells_pk {G : GH} {r : Nat} {o : Obj × Bool} {a : Addr} {n : Nat} (hr : G r = none) (hk : kn G a.block) : gcells (G.put r o) a n = gcells G a n := by
  unfold gcells; rw [put_ne _ _ (kn_ne hr hk)]
theorem put_pk {G : GH} {r b : Nat} {o : Obj × Bool} (hr : G r = none) (hk : kn G b) : (G.put r o) b = G b := put_ne _ _ (kn_ne hr hk)
theorem put_twice (G : GH) (b : Nat) (o o' : Obj × Bool) : (G.put b o).put b o' = G.put b o' := put_put G b o o'
theorem put_back (G : GH) {b c : Nat} (o o' : Obj × Bool) (h : b ≠ c) : (G.put b o).put c o' = (G.put c o').put b o := by
  funext d; unfold GH.put
  by_cases h1 : d = c <;> by_cases h2 : d = b <;> simp_all
theorem le_self (G : GH) : G.le G = True := eq_true (le_refl G)
theorem le_puts {G0 G : GH} {r : Nat} (o : Obj × Bool) (h : G0.le G) (hr : G r = none) : G0.le (G.put r o) = True := eq_true (h.trans (le_put hr o))
theorem le_put0 {G0 G : GH} {r : Nat} (o : Obj × Bool) (h : G0.le G) (hr : G0 r = none) : G0.le (G.put r o) = True := eq_true (le_put_new h hr o)
theorem Kup_val {G G' : GH} {u r : Value} (hl : G.le G') (e : u = r) : Kup (fun u G' => G.le G' ∧ u = r) u G' := ⟨G, hl.sub, le_refl G, e⟩
theorem Kup_same {K : Value → GH → Prop} {u : Value} {G : GH} (h : K u G) : Kup K u G := ⟨G, sub_refl G, h⟩
theorem elem_all {G : GH} {a : Addr} {n : Nat} {cs : List Value} (h : gcells G a n = some cs) : (∀ k, k < n → gcell G (a.add k) = cs[k]?) ∧ (∀ k m, k + m ≤ n → gcells G (a.add k) m = some ((cs.drop k).take m)) := by
  refine ⟨fun k hk => ?_, fun k m hm => gcells_sub h hm⟩
  have hl : cs.length = n := by
    unfold gcells at h; split at h
    case h_2 => cases h
    split at h
    · cases h; simp; omega
    · cases h
  rw [gcell_of_cells h (List.getElem?_eq_getElem (show k < cs.length by omega)), List.getElem?_eq_getElem (show k < cs.length by omega)]
theorem gcells_kn {G : GH} {a : Addr} {n : Nat} {cs : List Value} (h : gcells G a n = some cs) : kn G a.block := by
  unfold gcells at h; split at h
  · rename_i hG; exact ⟨_, hG⟩
  · cases h
theorem RSl.at {α : Type} {ρ : Rp α} {G : GH} {ad : Option Addr} {n c : Nat} {xs : List α} (h : RSl ρ G (.slice ad n c) xs) (i : Nat) (hi : i < xs.length) (z : Nat) (hz : ρ.sz = z) :
    ∃ x a cs, xs[i]? = some x ∧ ad = some a ∧ ρ.R G x cs ∧ gcells G (a.add (i * z)) z = some cs ∧ (∀ k, k < z → gcell G ((a.add (i * z)).add k) = cs[k]?) ∧ (∀ k m, k + m ≤ z → gcells G ((a.add (i * z)).add k) m = some ((cs.drop k).take m)) ∧ kn G a.block := by
  obtain ⟨a, cs, h1, h2, h3⟩ := h.get (List.getElem?_eq_getElem hi)
  subst hz
  refine ⟨xs[i], a, cs, List.getElem?_eq_getElem hi, h1, h3, h2, (elem_all h2).1, (elem_all h2).2, ?_⟩
  have := gcells_kn h2
  rwa [add_block] at this
theorem add0_add (a : Addr) (i : Nat) : (a.add i).add 0 = a.add i := by unfold Addr.add; split <;> simp_all
theorem RSl.at1 {α : Type} {ρ : Rp α} {G : GH} {ad : Option Addr} {n c : Nat} {xs : List α} (h : RSl ρ G (.slice ad n c) xs) (i : Nat) (hi : i < xs.length) (hz : ρ.sz = 1) :
    ∃ x a cs, xs[i]? = some x ∧ ad = some a ∧ ρ.R G x cs ∧ gcell G (a.add i) = cs[0]? ∧ kn G a.block := by
  obtain ⟨x, a', cs, h1, h2, h3, h4, h5, _, h6⟩ := h.at i hi 1 hz
  refine ⟨x, a', cs, h1, h2, h3, ?_, h6⟩
  have := h5 0 (by omega)
  rw [Nat.mul_one] at this
  rwa [add0_add] at this
theorem RSl.at1' {α : Type} {ρ : Rp α} {G : GH} {a : Addr} {n c : Nat} {xs : List α} (h : RSl ρ G (.slice (some a) n c) xs) (i : Nat) (hi : i < xs.length) (hz : ρ.sz = 1) :
    ∃ x cs, xs[i]? = some x ∧ ρ.R G x cs ∧ gcell G (a.add i) = cs[0]? ∧ kn G a.block := by
  obtain ⟨x, a', cs, h1, h2, h3⟩ := h.at1 i hi hz
  cases h2
  exact ⟨x, cs, h1, h3⟩
theorem RSl.at' {α : Type} {ρ : Rp α} {G : GH} {a : Addr} {n c : Nat} {xs : List α} (h : RSl ρ G (.slice (some a) n c) xs) (i : Nat) (hi : i < xs.length) (z : Nat) (hz : ρ.sz = z) :
    ∃ x cs, xs[i]? = some x ∧ ρ.R G x cs ∧ gcells G (a.add (i * z)) z = some cs ∧ (∀ k, k < z → gcell G ((a.add (i * z)).add k) = cs[k]?) ∧ (∀ k m, k + m ≤ z → gcells G ((a.add (i * z)).add k) m = some ((cs.drop k).take m)) ∧ kn G a.block := by
  obtain ⟨x, a', cs, h1, h2, h3, h4⟩ := h.at i hi z hz
  cases h2
  exact ⟨x, cs, h1, h3, h4⟩
theorem drop_at {α : Type} {xs : List α} {i : Nat} {x : α} (h : xs[i]? = some x) : xs.drop i = x :: xs.drop (i + 1) := by
  have hi : i < xs.length := by
    by_cases hl : i < xs.length
    · exact hl
    · rw [List.getElem?_eq_none (by omega)] at h; cases h
  rw [List.getElem?_eq_getElem hi] at h
  cases h
  exact List.drop_eq_getElem_cons hi
theorem take_at {α : Type} {xs : List α} {i : Nat} {x : α} (h : xs[i]? = some x) : xs.take (i + 1) = xs.take i ++ [x] := by
  rw [List.take_add_one, h]; rfl
theorem RSl.put {α : Type} {ρ : Rp α} {G : GH} {v : Value} {xs : List α} {r : Nat} (o : Obj × Bool) (hr : G r = none) (h : RSl ρ G v xs) : RSl ρ (G.put r o) v xs := h.le (le_put hr o)
theorem Pure.mk {n : Nat} {args : List Value} {r : Value} {G : GH} (h : ∀ G1, G.le G1 → GCalls P n args.toArray G1 (fun u G2 => G1.le G2 ∧ u = r)) : Pure P G n args r := h
theorem Pure.le {n : Nat} {args : List Value} {r : Value} {G G' : GH} (h : Pure P G n args r) (hl : G.le G') : Pure P G' n args r := fun G1 h1 => h G1 (hl.trans h1)
theorem inc_eq {i n : Nat} (h : i < n) (hn : (n : Int) ≤ 9223372036854775807) : IntKind.i64.wrap ((i:Int) + 1) = ((i + 1 : Nat) : Int) := by rw [wrap_id (by omega)]; omega
theorem bool_tf (b : Bool) : b = true ∨ b = false := by cases b <;> simp
theorem nat_succ (n : Nat) : ((n + 1 : Nat) : Int) = (n : Int) + 1 := by omega
theorem toNat_pred (n : Nat) : ((n : Int) - 1).toNat = n - 1 := by omega
theorem toNat_succ (n : Nat) : ((n : Int) + 1).toNat = n + 1 := by omega
theorem le_put3 {G : GH} {r : Nat} {o : Obj × Bool} (h : ∀ x, G r = some x → x = o) : G.le (G.put r o) := by
  intro b x hb
  by_cases e : b = r
  · subst e; rw [put_self, h x hb]
  · rw [put_ne G o e]; exact hb
theorem sub_self (G : GH) : G.sub G = True := eq_true (sub_refl G)
theorem sub_puts {G0 G : GH} {r : Nat} (o : Obj × Bool) (h : G0.sub G) (hr : G r = none) : G0.sub (G.put r o) = True := eq_true (h.trans (le_put hr o).sub)
theorem sub_put0 {G0 G : GH} {r : Nat} (o : Obj × Bool) (h : G0.sub G) (hr : G0 r = none) : G0.sub (G.put r o) = True := eq_true fun b x t hb => by
  obtain ⟨t', h1, h2⟩ := h b x t hb
  refine ⟨t', ?_, h2⟩
  unfold GH.put; split
  · rename_i e; subst e; rw [hr] at hb; cases hb
  · exact h1
theorem Y_cg {P : Program} {rs : Array ResultVar} {K : Value → GH → Prop} {s : List It} {ops : List Oper} {md : Option GH} {l : List Oper} {f : Fr} {G : GH} {f' : Fr} {G' : GH} (h0 : f = f') (h1 : G = G') : Y P rs K s ops md l f G = Y P rs K s ops md l f' G' := by subst h0; subst h1; rfl
theorem Yp_cg {P : Program} {rs : Array ResultVar} {K : Value → GH → Prop} {s : List It} {ops : List Oper} {md : Option GH} {d : Option Nat} {l : List Oper} {f : Fr} {G : GH} {o : Option Value} {o' : Option Value} (h0 : o = o') : Yp P rs K s ops md d l f G o = Yp P rs K s ops md d l f G o' := by subst h0; rfl
theorem Yw_cg {P : Program} {rs : Array ResultVar} {K : Value → GH → Prop} {s : List It} {ops : List Oper} {md : Option GH} {d : Option Nat} {l : List Oper} {f : Fr} {G : GH} {w : Option Bool} {want : Bool} {op : Oper} {w' : Option Bool} (h0 : w = w') : Yw P rs K s ops md d l f G w want op = Yw P rs K s ops md d l f G w' want op := by subst h0; rfl
theorem Ynew_cg {P : Program} {rs : Array ResultVar} {K : Value → GH → Prop} {s : List It} {ops : List Oper} {md : Option GH} {d : Option Nat} {l : List Oper} {f : Fr} {G : GH} {ob : Obj} {mk : Nat → Value} {ob' : Obj} {f' : Fr} {G' : GH} (h0 : ob = ob') (h1 : f = f') (h2 : G = G') : Ynew P rs K s ops md d l f G ob mk = Ynew P rs K s ops md d l f' G' ob' mk := by subst h0; subst h1; subst h2; rfl
theorem Ynewp_cg {P : Program} {rs : Array ResultVar} {K : Value → GH → Prop} {s : List It} {ops : List Oper} {md : Option GH} {d : Option Nat} {l : List Oper} {f : Fr} {G : GH} {ob : Obj} {mk : Nat → Value} {ob' : Obj} {f' : Fr} {G' : GH} (h0 : ob = ob') (h1 : f = f') (h2 : G = G') : Ynew' P rs K s ops md d l f G ob mk = Ynew' P rs K s ops md d l f' G' ob' mk := by subst h0; subst h1; subst h2; rfl
theorem Yset_cg {P : Program} {rs : Array ResultVar} {K : Value → GH → Prop} {s : List It} {ops : List Oper} {md : Option GH} {d : Option Nat} {l : List Oper} {f : Fr} {G : GH} {a : Addr} {vs : List Value} {a' : Addr} {vs' : List Value} (h0 : a = a') (h1 : vs = vs') : Yset P rs K s ops md d l f G a vs = Yset P rs K s ops md d l f G a' vs' := by subst h0; subst h1; rfl
theorem Yst_cg {P : Program} {rs : Array ResultVar} {K : Value → GH → Prop} {s : List It} {ops : List Oper} {md : Option GH} {d : Option Nat} {l : List Oper} {f : Fr} {G : GH} {T : TypeId} {p : Value} {v : Value} {p' : Value} {v' : Value} (h0 : p = p') (h1 : v = v') : Yst P rs K s ops md d l f G T p v = Yst P rs K s ops md d l f G T p' v' := by subst h0; subst h1; rfl
theorem Yal_cg {P : Program} {rs : Array ResultVar} {K : Value → GH → Prop} {s : List It} {ops : List Oper} {md : Option GH} {d : Option Nat} {l : List Oper} {f : Fr} {G : GH} {T : TypeId} {f' : Fr} (h0 : f = f') : Yal P rs K s ops md d l f G T = Yal P rs K s ops md d l f' G T := by subst h0; rfl
theorem Yfv_cg {P : Program} {rs : Array ResultVar} {K : Value → GH → Prop} {s : List It} {ops : List Oper} {md : Option GH} {d : Option Nat} {l : List Oper} {f : Fr} {G : GH} {fv : Value} {args : List Value} {fv' : Value} {args' : List Value} (h0 : fv = fv') (h1 : args = args') : Yfv P rs K s ops md d l f G fv args = Yfv P rs K s ops md d l f G fv' args' := by subst h0; subst h1; rfl
theorem Ycall_cg {P : Program} {rs : Array ResultVar} {K : Value → GH → Prop} {s : List It} {ops : List Oper} {md : Option GH} {d : Option Nat} {l : List Oper} {f : Fr} {G : GH} {n : Nat} {args : List Value} {args' : List Value} {f' : Fr} {G' : GH} (h0 : args = args') (h1 : f = f') (h2 : G = G') : Ycall P rs K s ops md d l f G n args = Ycall P rs K s ops md d l f' G' n args' := by subst h0; subst h1; subst h2; rfl
theorem Yg_cg {P : Program} {rs : Array ResultVar} {K : Value → GH → Prop} {s : List It} {ops : List Oper} {md : Option GH} {d : Option Nat} {l : List Oper} {f : Fr} {G : GH} {c : Sem Value} {c' : Sem Value} {f' : Fr} {G' : GH} (h0 : c = c') (h1 : f = f') (h2 : G = G') : Yg P rs K s ops md d l f G c = Yg P rs K s ops md d l f' G' c' := by subst h0; subst h1; subst h2; rfl
theorem Yment_cg {P : Program} {rs : Array ResultVar} {K : Value → GH → Prop} {s : List It} {ops : List Oper} {md : Option GH} {d : Option Nat} {l : List Oper} {f : Fr} {G : GH} {T : TypeId} {m : Value} {k : Value} {m' : Value} {k' : Value} {f' : Fr} {G' : GH} (h0 : m = m') (h1 : k = k') (h2 : f = f') (h3 : G = G') : Yment P rs K s ops md d l f G T m k = Yment P rs K s ops md d l f' G' T m' k' := by subst h0; subst h1; subst h2; subst h3; rfl
theorem Yent_cg {P : Program} {rs : Array ResultVar} {K : Value → GH → Prop} {s : List It} {ops : List Oper} {md : Option GH} {d : Option Nat} {l : List Oper} {f : Fr} {G : GH} {m : Value} {t : Value} {x : Value} {m' : Value} {t' : Value} {x' : Value} {f' : Fr} {G' : GH} (h0 : m = m') (h1 : t = t') (h2 : x = x') (h3 : f = f') (h4 : G = G') : Yent P rs K s ops md d l f G m t x = Yent P rs K s ops md d l f' G' m' t' x' := by subst h0; subst h1; subst h2; subst h3; subst h4; rfl
theorem Ymupd_cg {P : Program} {rs : Array ResultVar} {K : Value → GH → Prop} {s : List It} {ops : List Oper} {md : Option GH} {d : Option Nat} {l : List Oper} {f : Fr} {G : GH} {T : TypeId} {m : Value} {k : Value} {x : Value} {m' : Value} {k' : Value} {x' : Value} {f' : Fr} {G' : GH} (h0 : m = m') (h1 : k = k') (h2 : x = x') (h3 : f = f') (h4 : G = G') : Ymupd P rs K s ops md d l f G T m k x = Ymupd P rs K s ops md d l f' G' T m' k' x' := by subst h0; subst h1; subst h2; subst h3; subst h4; rfl
theorem Yms_cg {P : Program} {rs : Array ResultVar} {K : Value → GH → Prop} {s : List It} {ops : List Oper} {md : Option GH} {d : Option Nat} {l : List Oper} {f : Fr} {G : GH} {T : TypeId} {x y x' y' : Value} {f' : Fr} {G' : GH} (h0 : x = x') (h1 : y = y') (h2 : f = f') (h3 : G = G') : Yms P rs K s ops md d l f G T x y = Yms P rs K s ops md d l f' G' T x' y' := by subst h0; subst h1; subst h2; subst h3; rfl
theorem Ybs_cg {P : Program} {rs : Array ResultVar} {K : Value → GH → Prop} {s : List It} {ops : List Oper} {md : Option GH} {d : Option Nat} {l : List Oper} {f : Fr} {G : GH} {bc : Option (List Value × TypeId)} {n : Nat} {bc' : Option (List Value × TypeId)} {one one' syn : Bool} (h0 : bc = bc') (h1 : one = one') : Ybs P rs K s ops md d l f G bc n one syn = Ybs P rs K s ops md d l f G bc' n one' syn := by subst h0; subst h1; rfl
theorem YsO_cg {P : Program} {rs : Array ResultVar} {K : Value → GH → Prop} {s : List It} {ops : List Oper} {md : Option GH} {d : Option Nat} {l : List Oper} {f : Fr} {G : GH} {r : Nat} {off : Nat} {vs : List Value} {ox : Option (Obj × Bool)} {ox' : Option (Obj × Bool)} {vs' : List Value} (h0 : ox = ox') (h1 : vs = vs') : YsO P rs K s ops md d l f G r off vs ox = YsO P rs K s ops md d l f G r off vs' ox' := by subst h0; subst h1; rfl
theorem X_cg {P : Program} {rs : Array ResultVar} {K : Value → GH → Prop} {s : List It} {cc : Code} {f : Fr} {G : GH} {f' : Fr} {G' : GH} (h0 : f = f') (h1 : G = G') : X P rs K s cc f G = X P rs K s cc f' G' := by subst h0; subst h1; rfl
theorem Xc_cg {P : Program} {rs : Array ResultVar} {K : Value → GH → Prop} {s : List It} {v : Value} {ca : Code} {cb : Code} {f : Fr} {G : GH} {v' : Value} {f' : Fr} {G' : GH} (h0 : v = v') (h1 : f = f') (h2 : G = G') : Xc P rs K s v ca cb f G = Xc P rs K s v' ca cb f' G' := by subst h0; subst h1; subst h2; rfl
theorem Xloop_cg {P : Program} {rs : Array ResultVar} {K : Value → GH → Prop} {s : List It} {cc : Code} {f : Fr} {G : GH} {f' : Fr} {G' : GH} (h0 : f = f') (h1 : G = G') : Xloop P rs K s cc f G = Xloop P rs K s cc f' G' := by subst h0; subst h1; rfl
theorem Xdraw_cg {P : Program} {rs : Array ResultVar} {K : Value → GH → Prop} {s : List It} {id : Nat} {l : List Oper} {f : Fr} {G : GH} {f' : Fr} {G' : GH} (h0 : f = f') (h1 : G = G') : Xdraw P rs K s id l f G = Xdraw P rs K s id l f' G' := by subst h0; subst h1; rfl
theorem N_cg {P : Program} {rs : Array ResultVar} {K : Value → GH → Prop} {s : List It} {f : Fr} {G : GH} {f' : Fr} {G' : GH} (h0 : f = f') (h1 : G = G') : N P rs K s f G = N P rs K s f' G' := by subst h0; subst h1; rfl
theorem E_cg {P : Program} {rs : Array ResultVar} {K : Value → GH → Prop} {s : List It} {e : Exit} {f : Fr} {G : GH} {f' : Fr} {G' : GH} (h0 : f = f') (h1 : G = G') : E P rs K s e f G = E P rs K s e f' G' := by subst h0; subst h1; rfl
theorem vguard_cg {pp : Prop} {qq : Prop} {pp' : Prop} (h0 : pp = pp') : vguard pp qq = vguard pp' qq := by subst h0; rfl
attribute [congr] Y_cg Yp_cg Yw_cg Ynew_cg Ynewp_cg Yset_cg Yst_cg Yal_cg Yfv_cg Ycall_cg Yg_cg Yment_cg Yent_cg Ymupd_cg Ybs_cg Yms_cg YsO_cg X_cg Xc_cg Xloop_cg Xdraw_cg N_cg E_cg vguard_cg
end Go.GL
