/- A part of a proof: Walk and Length are as specified for all roads and arcs (statement DrivesWalkedUptoCardSaid) -/
import Derived.Test.YtjhfhacdjmokaaaGreatDoorDwGlRw
import Derived.Test.YtjhfhacdjmokaaaGreatDoorDwGlY
set_option linter.unusedSimpArgs false
set_option linter.unusedVariables false
set_option linter.unusedSectionVars false
namespace Go.GL
open Go Go.RowKit
variable {P : Program}
section
variable {α : Type} {ρ : Rp α} {e : TypeId}
theorem XcCut {rs : Array ResultVar} {K : Value → GH → Prop} {s : List It} {v : Value} {a b c : Code} {f : Fr} {G : GH} (J : Fr → GH → Prop) (h1 : Xc P rs K (.cut J :: s) v a b f G) (h2 : ∀ f G, J f G → X P rs K s c f G) : Xc P rs K (.code c :: s) v a b f G := by
  obtain ⟨t, hv, ha, hb⟩ := h1
  exact ⟨t, hv, fun ht => Xcut _ _ _ _ _ (J := J) (ha ht) h2, fun ht => Xcut _ _ _ _ _ (J := J) (hb ht) h2⟩
theorem YwCut {rs : Array ResultVar} {K : Value → GH → Prop} {s : List It} {ops : List Oper} {d : Option Nat} {l : List Oper} {f : Fr} {G : GH} {o : Option Bool} {want : Bool} {op : Oper} {c b : Code} (J : Fr → GH → Prop) (h1 : Yw P rs K (.code c :: .cut J :: s) ops none d l f G o want op) (h2 : ∀ f G, J f G → X P rs K s b f G) : Yw P rs K (.code c :: .code b :: s) ops none d l f G o want op := by
  have hm : ∀ f G, Qof P rs K (.code c :: .cut J :: s) .normal f G → Qof P rs K (.code c :: .code b :: s) .normal f G := fun f G h => Xcut _ _ _ _ _ (J := J) h h2
  unfold Yw at *
  split
  · rename_i q; rw [if_pos q] at h1; exact gops_mono hm _ _ _ h1
  · rename_i q; rw [if_neg q] at h1; exact gops_mono hm _ _ _ h1
theorem zero_flat {zs : List Value} (h0 : 0 < zs.length) : ∀ n : Nat, (Builtin.zeroCells zs.toArray n).toList = (List.replicate n zs).flatten := by
  intro n
  induction n with
  | zero => simp [Builtin.zeroCells]
  | succ n ih =>
    have e : (Builtin.zeroCells zs.toArray (n + 1)).toList = (Builtin.zeroCells zs.toArray n).toList ++ zs := by
      unfold Builtin.zeroCells
      simp only [List.size_toArray, Array.toList_map, Array.toList_range]
      rw [Nat.add_mul, Nat.one_mul, List.range_add, List.map_append]
      congr 1
      apply List.ext_getElem
      · simp
      · intro i h1 h2
        simp only [List.getElem_map, List.getElem_range]
        rw [Nat.mul_add_mod_of_lt h2]
        exact getElem!_pos zs.toArray i (by simpa using h2)
    rw [e, ih, List.replicate_succ', List.flatten_append]; simp
theorem cells_rep {G : GH} {x : α} {zs : List Value} (h : ρ.R G x zs) (n : Nat) : Cellsof ρ G (List.replicate n x) (List.replicate n zs).flatten := by
  refine ⟨List.replicate n zs, rfl, by simp, ?_⟩
  intro i y c hy hc
  rw [List.getElem?_replicate] at hy hc
  by_cases q : i < n
  · rw [if_pos q] at hy hc; cases hy; cases hc; exact h
  · rw [if_neg q] at hy; cases hy
theorem Yms_rowC {rs : Array ResultVar} {K : Value → GH → Prop} {s : List It} {ops : List Oper} {md : Option GH} {d : Option Nat} {l : List Oper} {f : Fr} {G : GH} {T : TypeId} {k k' : IntKind} {n m : Nat} {x0 : α} {z : Value}
    (S : SlTy P T e ρ.sz) (hz : tyZ P e = some z) (hR : ∀ G, ρ.R G x0 z.cells.toList) (hnm : n ≤ m) (hn : m ≤ 1073741824)
    (h : ∀ (ad : Addr) G', G ad.block = none → G.le G' → Row ρ e G G' (.slice (some ad) n m) (List.replicate n x0) → Y P rs K s ops md l (put f d (.slice (some ad) n m)) G') : Yms P rs K s ops md d l f G T (.int k n) (.int k' m) := by
  obtain ⟨hty, hsz, hpos, ⟨z', hz', hzs⟩, hb0, hb1⟩ := S
  rw [hz] at hz'; cases hz'
  have hm : msCells P T (.int k n) (.int k' m) = some (n, m, Builtin.zeroCells z.cells m, e) := by
    unfold msCells
    simp only [hty, hz, Int.toNat_natCast]
    rw [if_pos ⟨by omega, by omega, hb1, by omega, by omega, by omega⟩]
  unfold Yms
  rw [hm]
  intro r hr
  refine h ⟨r, 0, none⟩ _ hr (le_put hr _) ?_
  have hzl : z.cells.toList.length = ρ.sz := by rw [Array.length_toList]; exact hzs
  have hfl := zero_flat (zs := z.cells.toList) (by omega) m
  rw [Array.toArray_toList] at hfl
  have hlen : ∀ q : Nat, (List.replicate q z.cells.toList).flatten.length = q * ρ.sz := by
    intro q; induction q with
    | zero => simp
    | succ q ih => rw [List.replicate_succ', List.flatten_append, List.length_append, ih, Nat.add_mul]; simp [hzs]
  refine ⟨(List.replicate n z.cells.toList).flatten, ⟨by rw [hlen, List.length_replicate], .inr ⟨r, m, _, by simp, hr, put_self _ _ _, ?_, by simpa using hnm, ?_⟩⟩, ?_⟩
  · rw [zeroCells_size, hzs]
  · rw [hfl, List.length_replicate]
    obtain ⟨q, rfl⟩ : ∃ q, m = n + q := ⟨m - n, by omega⟩
    rw [← List.replicate_append_replicate, List.flatten_append, List.take_append_of_le_length (by rw [hlen]; exact Nat.le_refl _), List.take_of_length_le (by rw [hlen]; exact Nat.le_refl _)]
  · exact cells_rep (hR _) n
theorem msCells_some {sz : Nat} {T : TypeId} {k k' : IntKind} {n m : Nat} (S : SlTy P T e sz) (hnm : n ≤ m) (hn : m ≤ 1073741824) : (msCells P T (.int k n) (.int k' m)).isSome = true := by
  obtain ⟨hty, hsz, hpos, ⟨z', hz', hzs⟩, hb0, hb1⟩ := S
  unfold msCells
  simp only [hty, hz', Int.toNat_natCast]
  rw [if_pos ⟨by omega, by omega, hb1, by omega, by omega, by omega⟩]; rfl
theorem Yms_row {rs : Array ResultVar} {K : Value → GH → Prop} {s : List It} {ops : List Oper} {md : Option GH} {d : Option Nat} {l : List Oper} {f : Fr} {G : GH} {T : TypeId} {k k' : IntKind} {n : Nat} {x0 : α} {z : Value}
    (S : SlTy P T e ρ.sz) (hz : tyZ P e = some z) (hR : ∀ G, ρ.R G x0 z.cells.toList) (hn : n ≤ 1073741824)
    (h : ∀ (ad : Addr) G', G ad.block = none → G.le G' → Row ρ e G G' (.slice (some ad) n n) (List.replicate n x0) → Y P rs K s ops md l (put f d (.slice (some ad) n n)) G') : Yms P rs K s ops md d l f G T (.int k n) (.int k' n) := Yms_rowC S hz hR (Nat.le_refl n) hn h
theorem Row.rebase {G0 G1 G : GH} {v : Value} {xs : List α} (h : Row ρ e G1 G v xs) (hl : G0.le G1) : Row ρ e G0 G v xs := by
  obtain ⟨cs, h1, h2⟩ := h
  exact ⟨cs, h1.base hl, h2⟩
theorem Row.cell1 {G0 G : GH} {r : Nat} {v : Value} {x : α} (hr : G r = some (.cells #[v] e (0, 0), true)) (h0 : G0 r = none) (hR : ρ.R G x [v]) : Row ρ e G0 G (.slice (some ⟨r, 0, none⟩) 1 1) [x] := by
  have hz := ρ.len hR
  simp only [List.length_cons, List.length_nil] at hz
  exact ⟨[v], ⟨by simp [← hz], .inr ⟨r, 1, #[v], rfl, h0, hr, by simp [← hz], Nat.le_refl _, by simp [← hz]⟩⟩, Cellsof.one hR⟩
theorem Row.valS {G0 G : GH} {v : Value} {xs : List α} (h : Row ρ e G0 G v xs) (hn : 0 < xs.length) : ∃ a c, v = .slice (some a) xs.length c := by
  obtain ⟨a, c, rfl⟩ := h.val
  obtain ⟨b, _, rfl, _⟩ := h.open hn
  exact ⟨_, _, rfl⟩
theorem Row.notTy {G0 G : GH} {v : Value} {xs : List α} {r : Nat} {c : Array Value} {e' : TypeId} {fr : Nat × Nat} {t : Bool} (h : Row ρ e G0 G v xs) (hr : G r = some (.cells c e' fr, t)) (hne : e ≠ e') : notAt v r := by
  rintro n c' rfl
  obtain ⟨_, ⟨_, h2⟩, _⟩ := h
  rcases h2 with ⟨h, _⟩ | ⟨b', _, c', h, _, h3, _⟩
  · cases h
  · cases h; rw [hr] at h3; cases h3; exact hne rfl
theorem RSl.valS {G : GH} {v : Value} {xs : List α} (h : RSl ρ G v xs) (hn : 0 < xs.length) : ∃ a c, v = .slice (some a) xs.length c := by
  obtain ⟨a, n, c, rfl, h1, h2, h3⟩ := h
  obtain ⟨ad, rfl, _⟩ := h3 (by omega)
  exact ⟨ad, c, by rw [h1]⟩
theorem del_none {G : GH} {b : Nat} (h : G b = none) (c : Nat) : (G.del c) b = none := by unfold GH.del; split <;> first | rfl | exact h
theorem gcells_del {G : GH} {b : Nat} {a : Addr} {n : Nat} (h : a.block ≠ b) : gcells (G.del b) a n = gcells G a n := by unfold gcells; rw [del_ne h]
theorem ile_del (G : GH) (b : Nat) : (G.del b).ile G := (del_le G b).ile
theorem Row.blk {G0 G : GH} {ad : Addr} {n c : Nat} {xs : List α} {r : Nat} {cc : Array Value} {e' : TypeId} {fr : Nat × Nat} {t : Bool} (h : Row ρ e G0 G (.slice (some ad) n c) xs) (hn : 0 < xs.length) (hr : G r = some (.cells cc e' fr, t)) (hne : e ≠ e') : r ≠ ad.block := by
  obtain ⟨b, cells, h1, _, _, h2, _⟩ := h.open hn
  cases h1
  rintro rfl
  rw [hr] at h2; cases h2; exact hne rfl
theorem gcell_del {G : GH} {b : Nat} {a : Addr} (h : a.block ≠ b) : gcell (G.del b) a = gcell G a := by unfold gcell; rw [del_ne h]
theorem Row.blk_ne {β : Type} {σ : Rp β} {e2 : TypeId} {G0 G1 G : GH} {a b : Addr} {n c n' c' : Nat} {xs : List α} {ys : List β} (h1 : Row ρ e G0 G (.slice (some a) n c) xs) (h2 : Row σ e2 G1 G (.slice (some b) n' c') ys) (hx : 0 < xs.length) (hy : 0 < ys.length) (hne : a ≠ b) : a.block ≠ b.block := by
  obtain ⟨b1, _, q1, _⟩ := h1.open hx
  obtain ⟨b2, _, q2, _⟩ := h2.open hy
  cases q1; cases q2
  intro h; cases h; exact hne rfl
theorem el_eq {l : List α} {i : Nat} {x y : α} (h : l[i]? = some x) (h2 : l[i]? = some y) : x = y := by rw [h] at h2; cases h2; rfl
theorem set_get1 {l : List α} {i : Nat} {x y : α} (h : (l.set i y)[i]? = some x) : y = x := by
  rw [List.getElem?_set] at h
  split at h
  · split at h
    · cases h; rfl
    · cases h
  · rename_i q; exact absurd rfl q
theorem apart_ne {a b : Addr} {n c m k : Nat} (h : a ≠ b) : ∀ b' n' c', Value.slice (some a) n c = .slice (some ⟨b', 0, none⟩) n' c' → notAt (.slice (some b) m k) b' := by
  rintro b' n' c' q n2 c2 q2
  cases q; cases q2; exact h rfl
theorem ne_row {G0 G : GH} {a b : Addr} {n c : Nat} {xs : List α} (h : Row ρ e G0 G (.slice (some a) n c) xs) (hb : G b.block = none) : a ≠ b := by
  rintro rfl
  obtain ⟨_, ⟨_, h2⟩, _⟩ := h
  rcases h2 with ⟨h, _⟩ | ⟨b', _, c', h, _, h3, _⟩
  · cases h
  · cases h; rw [hb] at h3; cases h3
end
end Go.GL
