/- A part of a proof: Walk and Length are as specified for all roads and arcs (statement DrivesWalkedUptoCardSaid) -/
import Derived.Test.YtjhfhacdjmokaaaGreatDoorDwGlH
set_option linter.unusedSimpArgs false
set_option linter.unusedVariables false
set_option linter.unusedSectionVars false
namespace Go.GL
open Go Go.RowKit
variable {P : Program}
theorem growBy_le (newLen : Nat) : ∀ (r c : Nat), c ≤ newLen + (newLen + 768) / 4 → Builtin.growBy newLen r c ≤ newLen + (newLen + 768) / 4
  | 0, c, h => h
  | r + 1, c, h => by
    unfold Builtin.growBy
    split
    · exact h
    · exact growBy_le newLen r _ (by omega)
theorem nextslicecap_le {n c : Nat} (h : c < n) : Builtin.nextslicecap n c ≤ 2 * n + 512 := by
  unfold Builtin.nextslicecap
  split
  · omega
  · split
    · omega
    · have := growBy_le n 4 c (by omega); omega
theorem setCells_list (vs : List Value) : ∀ (c : Array Value) (off : Nat), off + vs.length ≤ c.size → (setCells c off vs).toList = c.toList.take off ++ vs ++ c.toList.drop (off + vs.length) := by
  induction vs with
  | nil => intro c off h; simp [setCells]
  | cons v vs ih =>
    intro c off h
    simp only [List.length_cons] at h
    unfold setCells
    rw [ih _ _ (by simp; omega)]
    simp only [Array.toList_setIfInBounds, List.length_cons]
    have hlt : off < c.toList.length := by simp; omega
    have h0 : c.toList.take (off + 1) = c.toList.take off ++ [c.toList[off]] := by rw [List.take_add_one, List.getElem?_eq_getElem hlt]; rfl
    have hlen : (c.toList.take off).length = off := by rw [List.length_take]; omega
    have h1 : (c.toList.set off v).take (off + 1) = c.toList.take off ++ [v] := by
      rw [List.take_set, h0, List.set_append_right _ _ (by omega), hlen, Nat.sub_self]; rfl
    rw [h1, List.drop_set_of_lt (by omega)]
    simp [Nat.add_comm 1, Nat.add_assoc]
theorem zeroCells_size (z : Array Value) (n : Nat) : (Builtin.zeroCells z n).size = n * z.size := by simp [Builtin.zeroCells]
def Read (G : GH) (x : Value) (sz m : Nat) (ds : List Value) : Prop :=
  ds.length = m * sz ∧ ∃ xa xc, x = .slice xa m xc ∧ ((∃ a, xa = some a ∧ gcells G a (m * sz) = some ds) ∨ m = 0)
theorem gwp_firstCells {G : GH} {x : Value} {sz m : Nat} {ds : List Value} (h : Read G x sz m ds) {K : Array Value → GH → Prop} (hk : K ds.toArray G) : gwp P (Builtin.firstCells sz m x) G K := by
  obtain ⟨hl, xa, xc, rfl, ⟨a, rfl, hc⟩ | rfl⟩ := h
  · exact gwp_loadCells hc hk
  · have : ds = [] := by cases ds <;> simp_all
    subst this
    cases xa with
    | none => exact hk
    | some a =>
      show gwp P (loadCells a (0 * sz)) G K
      rw [Nat.zero_mul]; exact hk
def notAt (v : Value) (r : Nat) : Prop := ∀ n c, v ≠ .slice (some ⟨r, 0, none⟩) n c
theorem OV.read {e : TypeId} {sz : Nat} {G0 G : GH} {v : Value} {n : Nat} {cs : List Value} (h : OV e sz G0 G v n cs) : Read G v sz n cs := by
  obtain ⟨hl, ⟨rfl, rfl⟩ | ⟨b, cap, c, rfl, h0, hb, hsz, hn, htake⟩⟩ := h
  · exact ⟨hl, _, _, rfl, .inr rfl⟩
  · refine ⟨hl, _, _, rfl, .inl ⟨_, rfl, ?_⟩⟩
    unfold gcells
    have : n * sz ≤ cap * sz := Nat.mul_le_mul_right _ hn
    simp [hb, hsz, this, htake]
theorem gwp_append {sT xT T e : TypeId} {sz : Nat} {G0 G : GH} {s x : Value} {n m : Nat} {cs ds : List Value} {z : Value} {K : Value → GH → Prop}
    (hs : tyD P sT = some (.slice e)) {xe : TypeId} (hx : tyD P xT = some (.slice xe)) (hz : tySz P e = sz) (hpos : 0 < sz) (hzv : tyZ P e = some z) (hzs : z.cells.size = sz)
    (hb0 : tyBytes P e ≠ 0) (hroom : (2 * (n + m) + 512) * tyBytes P e ≤ 2 ^ 48) (hv : OV e sz G0 G s n cs) (hr : Read G x sz m ds) (hone : ds.all oneV = true)
    (hle : G0.le G) (hk : ∀ v' G', OV e sz G0 G' v' (n + m) (cs ++ ds) → (∀ r o, G r = some o → notAt s r → G' r = some o) → G0.le G' → K v' G') : gwp P (Builtin.append_ #[sT, xT] T #[s, x]) G K := by
  obtain ⟨i, hi, hisz⟩ := info_some (P := P) (t := e) (by omega)
  have hib : i.bytes = tyBytes P e := by unfold tyBytes; rw [hi]; rfl
  obtain ⟨sa, scap, rfl⟩ := hv.val
  have hrd := hv.read
  have hov := hv
  obtain ⟨hl, hv2⟩ := hv
  have hrl := hr.1
  simp only [Builtin.append_, List.getElem?_toArray, List.getElem?_cons_zero, List.getElem?_cons_succ, gwp_bind, gwp_underlying _ _ _ hs, gwp_underlying _ _ _ hx, gwp_sizeOf e _ _ (show 0 < tySz P e by omega), gwp_pure, hz, Bool.false_eq_true, if_false, Bool.not_false, if_true]
  obtain ⟨_, xa, xc, hxv, hxr⟩ := hr
  have hlen : ∀ K' : Nat → GH → Prop, gwp P (Builtin.lenOf x) G K' = K' m G := by intro K'; rw [hxv]; rfl
  rw [hlen]
  have hr : Read G x sz m ds := ⟨hrl, xa, xc, hxv, hxr⟩
  by_cases hc : n + m ≤ scap
  · rw [if_pos hc, gwp_bind]
    refine gwp_firstCells hr ?_
    rcases hv2 with ⟨hv2, rfl⟩ | ⟨b, cap, c, hv2, h0, hb, hsz2, hn, htake⟩
    · cases hv2
      have : ds = [] := by have : m = 0 := by omega
                           subst this; cases ds <;> simp_all
      have hm : m = 0 := by omega
      subst this; subst hm
      exact hk _ _ ⟨by simpa using hl, .inl ⟨rfl, rfl⟩⟩ (fun r o h _ => h) hle
    · cases hv2
      have hmul : (n + m) * sz ≤ scap * sz := Nat.mul_le_mul_right _ hc
      rw [Nat.add_mul] at hmul
      dsimp only
      rw [gwp_bind]
      refine gwp_storeCells (e := e) (by rw [add_spot ⟨b, 0, none⟩ _ rfl]) ds hone 0 G c (by rw [add_block]; exact hb) (by rw [add_off]; simp; omega) ?_
      simp only [add_block, add_off, Nat.zero_add, Nat.add_zero]
      refine hk _ _ ⟨by simp [hl, hrl, Nat.add_mul],   .inr ⟨b, scap, _, rfl, h0, put_self _ _ _, by rw [setCells_size, hsz2], hc, ?_⟩⟩ ?_ (le_put_new hle h0 _)
      · rw [setCells_list _ _ _ (by omega), Nat.add_mul, htake, List.append_assoc, ← List.append_assoc, List.take_append_of_le_length (by simp [hl, hrl]), List.take_of_length_le (by simp [hl, hrl])]
      · intro r o hr' hne
        rw [put_ne _ _ (by intro e; subst e; exact hne _ _ rfl)]; exact hr'
  · rw [if_neg hc]
    have hbytes : ∀ K' : TypeInfo → GH → Prop, gwp P (typeInfo e) G K' = K' i G := fun K' => gwp_typeInfo _ _ _ hi
    simp only [gwp_bind, hbytes, hib, hb0, or_false, and_false, if_false]
    have hcap := nextslicecap_le (n := n + m) (c := scap) (by omega)
    rw [if_neg (by have := Nat.mul_le_mul_right (tyBytes P e) hcap; omega)]
    simp only [gwp_bind]
    intro t
    have hask : ∀ (q : Nat) (K' : Unit → GH → Prop), gwp P (askRoom q) G K' = K' () G := by
      intro q K'; unfold askRoom; split <;> rfl
    have hcut : (if (Question.appendCap (n + m) scap e).forced = true then 0 else (Question.appendCap (n + m) scap e).cut t) = n + m + t % (2 ^ 63 - (n + m)) := rfl
    rw [hcut]
    have hnc : n + m ≤ n + m + t % (2 ^ 63 - (n + m)) := Nat.le_add_right _ _
    generalize n + m + t % (2 ^ 63 - (n + m)) = nc at *
    have hpn : ∀ K' : Nat → GH → Prop, gwp P (Sem.pure nc) G K' = K' nc G := fun K' => rfl
    rw [hpn, hbytes, hask]
    refine gwp_firstCells hrd ?_
    refine gwp_firstCells hr ?_
    rw [gwp_zeroValue _ _ _ hzv]
    intro r hr0
    have hG0 : G0 r = none := hle.none hr0
    have hzc := zeroCells_size z.cells (nc - (n + m))
    have e1 : (n + m) * sz = n * sz + m * sz := Nat.add_mul _ _ _
    have e2 : nc * sz = (n + m) * sz + (nc - (n + m)) * sz := by rw [← Nat.add_mul]; congr 1; omega
    refine hk _ _ ⟨by simp [hl, hrl, Nat.add_mul], .inr ⟨r, nc, _, rfl, hG0, put_self _ _ _, ?_, hnc, ?_⟩⟩ ?_ (hle.trans (le_put hr0 _))
    · simp only [Array.size_append, List.size_toArray, hzc, hzs]; omega
    · simp only [Array.toList_append]
      rw [List.take_append_of_le_length (by simp [hl, hrl]; omega), List.take_of_length_le (by simp [hl, hrl]; omega)]
    · intro q o hq _
      exact le_put hr0 _ _ _ hq
theorem gcells_append {G : GH} {a : Addr} {m k : Nat} {c1 c2 : List Value} (h1 : gcells G a m = some c1) (h2 : gcells G (a.add m) k = some c2) : gcells G a (m + k) = some (c1 ++ c2) := by
  unfold gcells at *
  rw [add_block] at h2
  split at h1
  case h_2 => cases h1
  rename_i c e fr t hG
  simp only [hG] at h2
  split at h1
  case isFalse => cases h1
  rename_i hc
  have hsp : a.spot = none := by have := hc.1; cases hs : a.spot <;> simp_all
  rw [add_off] at h2
  split at h2
  case isFalse => cases h2
  rename_i hc2
  try simp only [hG]
  rw [if_pos ⟨hc.1, by omega⟩]
  cases h1; cases h2
  rw [← List.drop_drop, ← List.take_add]
theorem RSl.read {α : Type} {ρ : Rp α} {G : GH} {v : Value} {xs : List α} (h : RSl ρ G v xs) : ∃ ds, Read G v ρ.sz xs.length ds ∧ Cellsof ρ G xs ds := by
  obtain ⟨a, n, c, rfl, hn, hc, hx⟩ := h
  subst hn
  by_cases h0 : xs.length = 0
  · have : xs = [] := List.eq_nil_of_length_eq_zero h0
    subst this
    exact ⟨[], ⟨by simp, _, _, rfl, .inr rfl⟩, Cellsof.nil ρ G⟩
  · obtain ⟨ad, rfl, hs, hx⟩ := hx (by omega)
    have key : ∀ k, k < xs.length → ∃ ds, gcells G ad ((k + 1) * ρ.sz) = some ds ∧ Cellsof ρ G (xs.take (k + 1)) ds := by
      intro k
      induction k with
      | zero =>
        intro hk
        obtain ⟨cs, h1, h2⟩ := hx 0 xs[0] (List.getElem?_eq_getElem hk)
        refine ⟨cs, ?_, ?_⟩
        · have := gcellsI_cells h1
          rw [Nat.zero_mul] at this
          have e : ad.add 0 = ad := by cases ad; rfl
          rw [e] at this; simpa using this
        · have e : xs.take (0 + 1) = [xs[0]] := by rw [List.take_add_one, List.getElem?_eq_getElem hk]; simp
          rw [e]; exact Cellsof.one h2
      | succ k ih =>
        intro hk
        obtain ⟨ds, h3, h4⟩ := ih (by omega)
        obtain ⟨cs, h1, h2⟩ := hx (k + 1) xs[k+1] (List.getElem?_eq_getElem hk)
        refine ⟨ds ++ cs, ?_, ?_⟩
        · rw [Nat.succ_mul]; exact gcells_append h3 (gcellsI_cells h1)
        · have e : xs.take (k + 1 + 1) = xs.take (k + 1) ++ [xs[k+1]] := by rw [List.take_add_one, List.getElem?_eq_getElem hk]; rfl
          rw [e]; exact h4.append (Cellsof.one h2)
    obtain ⟨ds, h1, h2⟩ := key (xs.length - 1) (by omega)
    have e : xs.length - 1 + 1 = xs.length := by omega
    rw [e] at h1 h2
    rw [List.take_length] at h2
    exact ⟨ds, ⟨h2.len, _, _, rfl, .inl ⟨ad, rfl, h1⟩⟩, h2⟩
end Go.GL
