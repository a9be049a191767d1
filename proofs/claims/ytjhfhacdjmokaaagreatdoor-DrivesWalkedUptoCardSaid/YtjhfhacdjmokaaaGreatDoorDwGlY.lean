/- A part of a proof: Walk and Length are as specified for all roads and arcs (statement DrivesWalkedUptoCardSaid) -/
import Derived.Deep.Draws
import Derived.Test.YtjhfhacdjmokaaaGreatDoorDwGlSl
import Derived.Test.YtjhfhacdjmokaaaGreatDoorDwGlV
import Derived.Test.YtjhfhacdjmokaaaGreatDoorDwGlX
set_option linter.unusedSimpArgs false
set_option linter.unusedVariables false
set_option linter.unusedSectionVars false
namespace Go.GL
open Go Go.RowKit
variable {P : Program}
theorem Holds.alloc {w0 w : World} {G : GH} (h : Holds w0 G w) (o : Obj) : Holds w0 G (w.alloc o) := by
  refine ⟨h.below.alloc h.below.size o, ?_, h.own, h.drawn⟩
  intro b x t hb
  have := h.obj b x t hb
  simp only [World.alloc]
  rw [Array.getElem?_push, if_neg, this]
  intro e
  rw [e] at this
  simp at this
theorem Holds.drewN {w0 w : World} {G : GH} (h : Holds w0 G w) (n : Nat) : Holds w0 G (w.drewN n) :=
  ⟨⟨h.below.os, h.below.tape, h.below.output, h.below.size, h.below.block⟩, h.obj, h.own, Nat.le_trans h.drawn (Nat.le_add_right _ _)⟩
theorem pure_of_calls {n : Nat} {args : List Value} {r : Value} (G : GH) (h : ∀ w, Calls P n args.toArray w fun e w' => e = .returned r ∧ w' = w) : Pure P G n args r := by
  intro G1 _ w0 w hw
  refine (h w).mono ?_
  rintro e w' ⟨rfl, rfl⟩
  exact ⟨_, G1, rfl, hw, le_refl _, rfl⟩
theorem pure_of_calls2 {n : Nat} {args : List Value} {r : Value} (G : GH) (h : ∀ w, Calls P n args.toArray w fun e w' => e = .returned r ∧ ∀ w0 G, Holds w0 G w → Holds w0 G w') : Pure P G n args r := by
  intro G1 _ w0 w hw
  refine (h w).mono ?_
  rintro e w' ⟨rfl, h2⟩
  exact ⟨_, G1, rfl, h2 _ _ hw, le_refl _, rfl⟩
theorem ne_of_none {G : GH} {a b : Nat} {o : Obj × Bool} (h1 : G a = some o) (h2 : G b = none) : ¬ a = b := by
  rintro rfl; rw [h1] at h2; cases h2
theorem ne_of_none' {G : GH} {a b : Nat} {o : Obj × Bool} (h1 : G a = some o) (h2 : G b = none) : ¬ b = a := by
  rintro rfl; rw [h1] at h2; cases h2
section
variable {α : Type} {ρ : Rp α} {e : TypeId} {G0 G : GH} {xs : List α}
theorem Row.open {ad : Option Addr} {n c : Nat} (h : Row ρ e G0 G (.slice ad n c) xs) (hn : 0 < xs.length) : ∃ b cells, ad = some ⟨b, 0, none⟩ ∧ n = xs.length ∧ G0 b = none ∧ G b = some (.cells cells e (0, 0), true) ∧ cells.size = c * ρ.sz ∧ xs.length ≤ c ∧ Cellsof ρ G xs (cells.toList.take (xs.length * ρ.sz)) := by
  obtain ⟨cs, hov, hcs⟩ := h
  rcases hov.2 with ⟨_, h0⟩ | ⟨b, cap, cells, hv, h0, hb, hsz, hnc, htake⟩
  · omega
  · cases hv
    exact ⟨b, cells, rfl, rfl, h0, hb, hsz, hnc, htake ▸ hcs⟩
theorem mul_le_mul_r {i n z : Nat} (h : i < n) : i * z + z ≤ n * z := by
  have := Nat.mul_le_mul_right z (show i + 1 ≤ n by omega)
  rwa [Nat.add_mul, Nat.one_mul] at this
theorem Row.at {ad : Option Addr} {n c : Nat} (h : Row ρ e G0 G (.slice ad n c) xs) (i : Nat) (hi : i < xs.length) (z : Nat) (hz : ρ.sz = z) :
    ∃ x a cs, xs[i]? = some x ∧ ad = some a ∧ ρ.R G x cs ∧ gcells G (a.add (i * z)) z = some cs ∧ (∀ k, k < z → gcell G ((a.add (i * z)).add k) = cs[k]?) ∧ (∀ k m, k + m ≤ z → gcells G ((a.add (i * z)).add k) m = some ((cs.drop k).take m)) ∧ kn G a.block := by
  subst hz
  obtain ⟨b, cells, rfl, rfl, h0, hb, hsz, hnc, hcs⟩ := h.open (by omega)
  have hx := List.getElem?_eq_getElem hi
  have hR := hcs.get hx
  have h1 := mul_le_mul_r (z := ρ.sz) hi
  have h2 : xs.length * ρ.sz ≤ cells.size := by rw [hsz]; exact Nat.mul_le_mul_right _ hnc
  have hg : gcells G ((⟨b, 0, none⟩ : Addr).add (i * ρ.sz)) ρ.sz = some ((cells.toList.drop (i * ρ.sz)).take ρ.sz) := by
    rw [add_mk, Nat.zero_add]; unfold gcells; simp only [hb]; rw [if_pos ⟨rfl, by omega⟩]
  have he : ((cells.toList.take (xs.length * ρ.sz)).drop (i * ρ.sz)).take ρ.sz = (cells.toList.drop (i * ρ.sz)).take ρ.sz := by
    rw [List.drop_take, List.take_take]; congr 1; omega
  rw [he] at hR
  exact ⟨xs[i], _, _, hx, rfl, hR, hg, (elem_all hg).1, (elem_all hg).2, kn_of hb⟩
theorem Row.at1 {ad : Option Addr} {n c : Nat} (h : Row ρ e G0 G (.slice ad n c) xs) (i : Nat) (hi : i < xs.length) (hz : ρ.sz = 1) :
    ∃ x a cs, xs[i]? = some x ∧ ad = some a ∧ ρ.R G x cs ∧ gcell G (a.add i) = cs[0]? ∧ kn G a.block := by
  obtain ⟨x, a', cs, h1, h2, h3, h4, h5, _, h6⟩ := h.at i hi 1 hz
  refine ⟨x, a', cs, h1, h2, h3, ?_, h6⟩
  have := h5 0 (by omega)
  rw [Nat.mul_one] at this
  rwa [add0_add] at this
theorem Row.at1' {a : Addr} {n c : Nat} (h : Row ρ e G0 G (.slice (some a) n c) xs) (i : Nat) (hi : i < xs.length) (hz : ρ.sz = 1) :
    ∃ x cs, xs[i]? = some x ∧ ρ.R G x cs ∧ gcell G (a.add i) = cs[0]? ∧ kn G a.block := by
  obtain ⟨x, a', cs, h1, h2, h3⟩ := h.at1 i hi hz
  cases h2
  exact ⟨x, cs, h1, h3⟩
theorem Row.at' {a : Addr} {n c : Nat} (h : Row ρ e G0 G (.slice (some a) n c) xs) (i : Nat) (hi : i < xs.length) (z : Nat) (hz : ρ.sz = z) :
    ∃ x cs, xs[i]? = some x ∧ ρ.R G x cs ∧ gcells G (a.add (i * z)) z = some cs ∧ (∀ k, k < z → gcell G ((a.add (i * z)).add k) = cs[k]?) ∧ (∀ k m, k + m ≤ z → gcells G ((a.add (i * z)).add k) m = some ((cs.drop k).take m)) ∧ kn G a.block := by
  obtain ⟨x, a', cs, h1, h2, h3, h4⟩ := h.at i hi z hz
  cases h2
  exact ⟨x, cs, h1, h3, h4⟩
theorem Row.ileOf {v : Value} {G' : GH} (h : Row ρ e G0 G v xs) (k : ∀ r o, G r = some o → notAt v r → G' r = some o) : G.ile G' := by
  intro b o hb
  refine k b _ hb ?_
  obtain ⟨cs, ⟨_, h2⟩, _⟩ := h
  rintro n c rfl
  rcases h2 with ⟨h, _⟩ | ⟨b', cap, c', h, _, hb', _⟩
  · cases h
  · cases h; rw [hb] at hb'; cases hb'
theorem RSl.appd {β : Type} {σ : Rp β} {v w : Value} {ys : List β} {G' : GH} (hs : RSl σ G w ys) (h : Row ρ e G0 G v xs) (k : ∀ r o, G r = some o → notAt v r → G' r = some o) : RSl σ G' w ys := hs.ile (h.ileOf k)
theorem Row.fresh {v : Value} {r : Nat} (h : Row ρ e G0 G v xs) (hr : G r = none) : notAt v r := by
  obtain ⟨cs, ⟨_, h2⟩, _⟩ := h
  rintro n c rfl
  rcases h2 with ⟨h, _⟩ | ⟨b', cap, c', h, _, hb', _⟩
  · cases h
  · cases h; rw [hr] at hb'; cases hb'
theorem Row.over {v : Value} {r : Nat} {o : Obj} (o' : Obj × Bool) (h : Row ρ e G0 G v xs) (hr : G r = some (o, true)) (hn : notAt v r) : Row ρ e G0 (G.put r o') v xs := by
  obtain ⟨cs, ⟨h1, h2⟩, h3⟩ := h
  refine ⟨cs, ⟨h1, h2.imp id ?_⟩, h3.ile (ile_put hr o')⟩
  rintro ⟨b, cap, c, a1, a2, a3, a4⟩
  refine ⟨b, cap, c, a1, a2, ?_, a4⟩
  rw [put_ne]
  · exact a3
  · rintro rfl; exact hn _ _ a1
theorem RSl.over {β : Type} {σ : Rp β} {w : Value} {ys : List β} {r : Nat} {o : Obj} (o' : Obj × Bool) (h : RSl σ G w ys) (hr : G r = some (o, true)) : RSl σ (G.put r o') w ys := h.ile (ile_put hr o')
theorem Row.store {ad : Addr} {n c : Nat} (h : Row ρ e G0 G (.slice (some ad) n c) xs) {i : Nat} {x y : α} (hx : xs[i]? = some x) {k : Nat} {vs : List Value} (hk : k + vs.length ≤ ρ.sz) (hR : ∀ cs G', G.ile G' → ρ.R G x cs → ρ.R G' y (cs.take k ++ vs ++ cs.drop (k + vs.length))) :
    ∃ cells, G ad.block = some (.cells cells e (0, 0), true) ∧ ad.off = 0 ∧ ad.spot = none ∧ i * ρ.sz + k + vs.length ≤ cells.size ∧ G0 ad.block = none ∧ Row ρ e G0 (G.put ad.block (.cells (setCells cells (i * ρ.sz + k) vs) e (0, 0), true)) (.slice (some ad) n c) (xs.set i y) := by
  have hi : i < xs.length := by
    by_cases hl : i < xs.length
    · exact hl
    · rw [List.getElem?_eq_none (by omega)] at hx; cases hx
  obtain ⟨b, cells, hb0, rfl, h0, hb, hsz, hnc, hcs⟩ := h.open (by omega)
  cases hb0
  have h1 := mul_le_mul_r (z := ρ.sz) hi
  have h2 : xs.length * ρ.sz ≤ cells.size := by rw [hsz]; exact Nat.mul_le_mul_right _ hnc
  refine ⟨cells, hb, rfl, rfl, by omega, h0, ?_⟩
  have hile : G.ile (G.put b (.cells (setCells cells (i * ρ.sz + k) vs) e (0, 0), true)) := ile_put hb _
  have hll : (cells.toList.take (xs.length * ρ.sz)).length = xs.length * ρ.sz := by rw [List.length_take, Nat.min_eq_left (by rw [Array.length_toList]; exact h2)]
  have hnew := setCells_list vs cells (i * ρ.sz + k) (by omega)
  obtain ⟨css, hcss, hlen, hcr⟩ := hcs
  have hcl : ∀ q ∈ css, q.length = ρ.sz := by
    intro q hq
    obtain ⟨j, hj⟩ := List.mem_iff_getElem?.1 hq
    have hjl : j < xs.length := by
      by_cases hl : j < xs.length
      · exact hl
      · rw [List.getElem?_eq_none (by omega)] at hj; cases hj
    exact ρ.len (hcr j xs[j] q (List.getElem?_eq_getElem hjl) hj)
  have hil : i < css.length := by omega
  let ci := css[i]'hil
  have hci : css[i]? = some ci := List.getElem?_eq_getElem hil
  have hciR := hcr i x ci hx hci
  have hcil : ci.length = ρ.sz := hcl ci (List.getElem_mem hil)
  have hseg := flatten_seg css hcl i ci hci
  rw [← hcss] at hseg
  let css' := css.set i (ci.take k ++ vs ++ ci.drop (k + vs.length))
  have hflat : ((setCells cells (i * ρ.sz + k) vs).toList.take (xs.length * ρ.sz)) = css'.flatten := by
    have hcl' : ∀ q ∈ css', q.length = ρ.sz := by
      intro q hq
      rcases List.mem_or_eq_of_mem_set hq with h | h
      · exact hcl q h
      · rw [h]; simp; omega
    have hfl : css'.flatten.length = xs.length * ρ.sz := by
      have : ∀ (l : List (List Value)), (∀ q ∈ l, q.length = ρ.sz) → l.flatten.length = l.length * ρ.sz := by
        intro l hl
        induction l with
        | nil => simp
        | cons a l ih => rw [List.flatten_cons, List.length_append, hl a (by simp), ih (fun q hq => hl q (by simp [hq])), List.length_cons, Nat.add_mul]; omega
      rw [this css' hcl']; simp [css', hlen]
    apply List.ext_getElem?
    intro t
    rcases Nat.lt_or_ge t (xs.length * ρ.sz) with ht | ht
    rotate_left
    · rw [List.getElem?_eq_none (by rw [List.length_take]; omega), List.getElem?_eq_none (by omega)]
    rw [List.getElem?_take, if_pos ht]
    have hzp : 0 < ρ.sz := by
      rcases Nat.eq_zero_or_pos ρ.sz with q | q
      · rw [q, Nat.mul_zero] at ht; omega
      · exact q
    have hj : t / ρ.sz < xs.length := Nat.div_lt_of_lt_mul (by rw [Nat.mul_comm]; exact ht)
    have htd : t = t / ρ.sz * ρ.sz + t % ρ.sz := by rw [Nat.mul_comm]; exact (Nat.div_add_mod t ρ.sz).symm
    have htm := Nat.mod_lt t hzp
    generalize t / ρ.sz = j at *
    generalize t % ρ.sz = m at *
    have hget : ∀ (L : List (List Value)) (hL : ∀ q ∈ L, q.length = ρ.sz) (q : List Value), L[j]? = some q → L.flatten[t]? = q[m]? := by
      intro L hL q hq
      have := flatten_seg L hL j q hq
      rw [← this, List.getElem?_take, if_pos htm, List.getElem?_drop, htd]
    have hjl : j < css.length := by omega
    have hold : cells.toList[t]? = css[j][m]? := by
      have := hget css hcl css[j] (List.getElem?_eq_getElem hjl)
      rw [← hcss, List.getElem?_take, if_pos ht] at this
      exact this
    rw [hnew]
    by_cases hji : j = i
    · subst hji
      have hq : css'[j]? = some (ci.take k ++ vs ++ ci.drop (k + vs.length)) := by simp [css', hjl]
      rw [hget css' hcl' _ hq]
      have hold' : cells.toList[t]? = ci[m]? := hold
      have htk : (cells.toList.take (j * ρ.sz + k)).length = j * ρ.sz + k := by rw [List.length_take, Nat.min_eq_left (by rw [Array.length_toList]; omega)]
      by_cases hm1 : m < k
      · rw [List.getElem?_append_left (by rw [List.length_append, htk]; omega), List.getElem?_append_left (by rw [htk]; omega), List.getElem?_take, if_pos (by omega), hold', List.getElem?_append_left (by simp; omega), List.getElem?_append_left (by simp; omega), List.getElem?_take, if_pos hm1]
      · by_cases hm2 : m < k + vs.length
        · rw [List.getElem?_append_left (by rw [List.length_append, htk]; omega), List.getElem?_append_right (by rw [htk]; omega), htk, List.getElem?_append_left (by simp; omega), List.getElem?_append_right (by simp; omega)]
          congr 1
          simp; omega
        · rw [List.getElem?_append_right (by rw [List.length_append, htk]; omega), List.getElem?_append_right (by simp; omega), List.getElem?_drop, List.getElem?_drop]
          have e1 : j * ρ.sz + k + vs.length + (t - (List.take (j * ρ.sz + k) cells.toList ++ vs).length) = t := by rw [List.length_append, htk]; omega
          have e2 : k + vs.length + (m - (List.take k ci ++ vs).length) = m := by simp; omega
          rw [e1, e2, hold']
    · have hq : css'[j]? = some css[j] := by
        simp only [css']
        rw [List.getElem?_set_ne (Ne.symm hji)]; exact List.getElem?_eq_getElem hjl
      rw [hget css' hcl' _ hq, ← hold]
      have htk : (cells.toList.take (i * ρ.sz + k)).length = i * ρ.sz + k := by rw [List.length_take, Nat.min_eq_left (by rw [Array.length_toList]; omega)]
      by_cases hlt : j < i
      · have := mul_le_mul_r (z := ρ.sz) hlt
        rw [List.getElem?_append_left (by rw [List.length_append, htk]; omega), List.getElem?_append_left (by rw [htk]; omega), List.getElem?_take, if_pos (by omega)]
      · have := mul_le_mul_r (z := ρ.sz) (show i < j by omega)
        rw [List.getElem?_append_right (by rw [List.length_append, htk]; omega), List.getElem?_drop]
        congr 1
        rw [List.length_append, htk]; omega
  refine ⟨css'.flatten, ⟨?_, .inr ⟨b, c, _, by rw [List.length_set], h0, put_self _ _ _, by rw [setCells_size, hsz], by rw [List.length_set]; exact hnc, ?_⟩⟩, css', rfl, by simp [css', hlen], ?_⟩
  · have hq : (setCells cells (i * ρ.sz + k) vs).toList.length = cells.size := by
      have : (setCells cells (i * ρ.sz + k) vs).toList.length = (setCells cells (i * ρ.sz + k) vs).size := Array.length_toList
      rw [this, setCells_size]
    rw [← hflat, List.length_set, List.length_take, Nat.min_eq_left (by omega)]
  · rw [List.length_set]; exact hflat
  · intro j z q hz hq
    by_cases hji : j = i
    · subst hji
      simp only [css'] at hq
      rw [List.getElem?_set_self hil] at hq
      rw [List.getElem?_set_self hi] at hz
      cases hq; cases hz
      exact hR ci _ hile hciR
    · simp only [css'] at hq
      rw [List.getElem?_set_ne (Ne.symm hji)] at hq hz
      exact ρ.ile hile (hcr j z q hz hq)
theorem Yrow {rs : Array ResultVar} {K : Value → GH → Prop} {s : List It} {ops : List Oper} {md : Option GH} {d : Option Nat} {l : List Oper} {f : Fr} {ad : Addr} {n c : Nat} (h : Row ρ e G0 G (.slice (some ad) n c) xs) {i z : Nat} (hz : ρ.sz = z) {y : α} {vs : List Value} (hi : i < xs.length) (hl : vs.length = z) (hR : ∀ G', G.ile G' → ρ.R G' y vs)
    (hk : ∀ G', Row ρ e G0 G' (.slice (some ad) n c) (xs.set i y) → G.ile G' → (∀ b o, G b = some o → notAt (.slice (some ad) n c) b → G' b = some o) → kn G' ad.block → (G0.le G → G0.le G') → Y P rs K s ops md l (put f d undef) G') : Yset P rs K s ops md d l f G (ad.add (i * z)) vs := by
  subst hz
  have hx := List.getElem?_eq_getElem hi
  obtain ⟨cells, h1, h2, h3, h4, h5, h6⟩ := h.store hx (k := 0) (vs := vs) (by omega) (y := y) (fun cs G' hG hcs => by
    have hcl := ρ.len hcs
    rw [List.take_zero, List.nil_append, List.drop_eq_nil_of_le (by omega), List.append_nil]; exact hR G' hG)
  have hile := ile_put h1 (.cells (setCells cells (i * ρ.sz + 0) vs) e (0, 0), true)
  obtain ⟨blk, off, spot⟩ := ad
  cases h2; cases h3
  refine ⟨by rw [add_mk], cells, e, by rw [add_mk]; exact h1, by rw [add_mk]; simp only [Nat.zero_add]; omega, ?_⟩
  have e1 : ((⟨blk, 0, none⟩ : Addr).add (i * ρ.sz)).off = i * ρ.sz + 0 := by rw [add_mk]; simp
  have e2 : ((⟨blk, 0, none⟩ : Addr).add (i * ρ.sz)).block = blk := by rw [add_mk]
  rw [e1, e2]
  refine hk _ h6 hile ?_ (kn_of (put_self _ _ _)) (fun hl => le_put_new hl h5 _)
  intro b o hb hn
  rw [put_ne]
  · exact hb
  · rintro rfl; exact hn _ _ rfl
theorem Yrow1 {rs : Array ResultVar} {K : Value → GH → Prop} {s : List It} {ops : List Oper} {md : Option GH} {d : Option Nat} {l : List Oper} {f : Fr} {ad : Addr} {n c : Nat} (h : Row ρ e G0 G (.slice (some ad) n c) xs) {i : Nat} (hz : ρ.sz = 1) {y : α} {v : Value} (hi : i < xs.length) (hR : ∀ G', G.ile G' → ρ.R G' y [v])
    (hk : ∀ G', Row ρ e G0 G' (.slice (some ad) n c) (xs.set i y) → G.ile G' → (∀ b o, G b = some o → notAt (.slice (some ad) n c) b → G' b = some o) → kn G' ad.block → (G0.le G → G0.le G') → Y P rs K s ops md l (put f d undef) G') : Yset P rs K s ops md d l f G (ad.add i) [v] := by
  have := Yrow h hz (vs := [v]) hi rfl hR hk
  rwa [Nat.mul_one] at this
theorem YrowF {rs : Array ResultVar} {K : Value → GH → Prop} {s : List It} {ops : List Oper} {md : Option GH} {d : Option Nat} {l : List Oper} {f : Fr} {ad : Addr} {n c : Nat} (h : Row ρ e G0 G (.slice (some ad) n c) xs) {i z k : Nat} (hz : ρ.sz = z) {x y : α} {vs : List Value} (hx : xs[i]? = some x) (hk : k + vs.length ≤ z) (hR : ∀ cs G', G.ile G' → ρ.R G x cs → ρ.R G' y (cs.take k ++ vs ++ cs.drop (k + vs.length)))
    (hc : ∀ G', Row ρ e G0 G' (.slice (some ad) n c) (xs.set i y) → G.ile G' → (∀ b o, G b = some o → notAt (.slice (some ad) n c) b → G' b = some o) → kn G' ad.block → (G0.le G → G0.le G') → Y P rs K s ops md l (put f d undef) G') : Yset P rs K s ops md d l f G ((ad.add (i * z)).add k) vs := by
  subst hz
  obtain ⟨cells, h1, h2, h3, h4, h5, h6⟩ := h.store hx (k := k) (vs := vs) hk (y := y) hR
  have hile := ile_put h1 (.cells (setCells cells (i * ρ.sz + k) vs) e (0, 0), true)
  obtain ⟨blk, off, spot⟩ := ad
  cases h2; cases h3
  have e0 : ((⟨blk, 0, none⟩ : Addr).add (i * ρ.sz)).add k = ⟨blk, i * ρ.sz + k, none⟩ := by rw [add_mk, add_mk, Nat.zero_add]
  rw [e0]
  refine ⟨rfl, cells, e, h1, by simp only; omega, ?_⟩
  refine hc _ h6 hile ?_ (kn_of (put_self _ _ _)) (fun hl => le_put_new hl h5 _)
  intro b o hb hn
  rw [put_ne]
  · exact hb
  · rintro rfl; exact hn _ _ rfl
theorem Row.freeze {v : Value} (h : Row ρ e G0 G v xs) : ∃ G', G'.sub G ∧ RSl ρ G' v xs ∧ (∀ r o, G r = some o → notAt v r → G' r = some o) ∧ (G0.le G → G0.le G') := by
  obtain ⟨cs, hov, hcs⟩ := h
  rcases hov.2 with ⟨rfl, hl0⟩ | ⟨b, cap, c, rfl, hb0, hb, hsz, hnc, htake⟩
  · have := List.eq_nil_of_length_eq_zero hl0
    subst this
    exact ⟨G, sub_refl G, RSl.nil _ _, fun _ _ h _ => h, id⟩
  · have hf := Frz.put hb
    have hil : G.ile (G.put b (.cells c e (0, 0), false)) := ile_put hb _
    refine ⟨G.put b (.cells c e (0, 0), false), hf.sub, ⟨_, _, _, rfl, rfl, hnc, fun hpos => ⟨⟨b, 0, none⟩, rfl, rfl, ?_⟩⟩, ?_, fun hl => le_put_new hl hb0 _⟩
    · intro i x hx
      have hi : i < xs.length := by
        by_cases hl : i < xs.length
        · exact hl
        · rw [List.getElem?_eq_none (by omega)] at hx; cases hx
      have hR := hcs.get hx
      have h1 := mul_le_mul_r (z := ρ.sz) hi
      have h2 : xs.length * ρ.sz ≤ c.size := by rw [hsz]; exact Nat.mul_le_mul_right _ hnc
      refine ⟨_, ?_, ρ.ile hil hR⟩
      unfold gcellsI
      rw [add_mk, Nat.zero_add]
      simp only [put_self]
      rw [if_pos ⟨rfl, by omega⟩, ← htake]
      congr 1
      rw [List.drop_take, List.take_take]; congr 1; omega
    · intro r o hr hn
      rw [put_ne]
      · exact hr
      · rintro rfl; exact hn _ _ rfl
theorem Ycsub {rs : Array ResultVar} {K : Value → GH → Prop} {s : List It} {ops : List Oper} {d : Option Nat} {l : List Oper} {f : Fr} {G1 : GH} {n : Nat} {args : List Value} (hl : G1.sub G) (h : Ycall P rs K s ops none d l f G1 n args) : Ycall P rs K s ops none d l f G n args := GCalls.more h hl
theorem frz_list {r : Nat} {cs : List Value} (h : G r = some (.cells cs.toArray e (0, 0), true)) (hc : Cellsof ρ G xs cs) : ∃ G', G'.sub G ∧ RSl ρ G' (.slice (some ⟨r, 0, none⟩) xs.length xs.length) xs ∧ (∀ b o, b ≠ r → G b = some o → G' b = some o) ∧ G.ile G' ∧ (∀ A : GH, A.le G → A r = none → A.le G') := by
  have hf := Frz.put h
  have hil : G.ile (G.put r (.cells cs.toArray e (0, 0), false)) := ile_put h _
  have hl := hc.len
  refine ⟨G.put r (.cells cs.toArray e (0, 0), false), hf.sub, ⟨_, _, _, rfl, rfl, Nat.le_refl _, fun hpos => ⟨⟨r, 0, none⟩, rfl, rfl, ?_⟩⟩, ?_, hil, fun A hA h0 => le_put_new hA h0 _⟩
  · intro i x hx
    have hi : i < xs.length := by
      by_cases hl : i < xs.length
      · exact hl
      · rw [List.getElem?_eq_none (by omega)] at hx; cases hx
    have hR := hc.get hx
    have h1 := mul_le_mul_r (z := ρ.sz) hi
    refine ⟨_, ?_, ρ.ile hil hR⟩
    unfold gcellsI
    rw [add_mk, Nat.zero_add]
    simp only [put_self]
    rw [if_pos ⟨rfl, by simp; omega⟩]
  · intro b o hb hb2
    rw [put_ne _ _ hb]; exact hb2
theorem cells1 {enc : α → Value} (hx : ∀ x ∈ xs, ρ.R G x [enc x]) : Cellsof ρ G xs (xs.map enc) := ⟨xs.map fun x => [enc x], by
  have : ∀ l : List α, l.map enc = (l.map fun x => [enc x]).flatten := fun l => by induction l <;> simp_all
  exact this xs, by simp, by
  intro i x c h1 h2
  rw [List.getElem?_map, h1] at h2
  cases h2; exact hx x (List.mem_of_getElem? h1)⟩
theorem Pure.own {r : Nat} {o : Obj} {n : Nat} {args : List Value} {v : Value} (hr : G r = some (o, true)) (h : Pure P (G.put r (o, false)) n args v) : Pure P G n args v := by
  intro G1 hl w0 w hw
  have hr1 := hl _ _ hr
  have hs : (G1.put r (o, false)).sub G1 := by
    intro b x t hb
    unfold GH.put at hb
    split at hb
    · rename_i e1; subst e1; cases hb; exact ⟨true, hr1, fun q => by cases q⟩
    · exact ⟨t, hb, id⟩
  have hw' := hw.less hs
  refine (h _ (le_put2 hl r (o, false)) w0 w hw').mono ?_
  rintro e' w' ⟨u, G2, rfl, hh, hl2, rfl⟩
  have h2 : G2 r = some (o, false) := hl2 _ _ (put_self _ _ _)
  refine ⟨_, G2.put r (o, true), rfl, ⟨hh.below, ?_, ?_, hh.drawn⟩, ?_, rfl⟩
  · intro b x t hb
    unfold GH.put at hb
    split at hb
    · rename_i e1; subst e1; cases hb; exact hh.obj _ _ _ h2
    · exact hh.obj _ _ _ hb
  · intro b x hb
    unfold GH.put at hb
    split at hb
    · rename_i e1; subst e1; exact hw.own _ _ hr1
    · exact hh.own _ _ hb
  · intro b x hb
    unfold GH.put
    split
    · rename_i e1; subst e1; rw [hr1] at hb; exact hb
    · rename_i e1
      exact hl2 _ _ (by rw [put_ne _ _ e1]; exact hb)
theorem frz_at (G : GH) (r : Nat) {cs : List Value} (hc : Cellsof ρ (G.put r (.cells cs.toArray e (0, 0), false)) xs cs) : RSl ρ (G.put r (.cells cs.toArray e (0, 0), false)) (.slice (some ⟨r, 0, none⟩) xs.length xs.length) xs := by
  have hl := hc.len
  refine ⟨_, _, _, rfl, rfl, Nat.le_refl _, fun hpos => ⟨⟨r, 0, none⟩, rfl, rfl, ?_⟩⟩
  intro i x hx
  have hi : i < xs.length := by
    by_cases hl : i < xs.length
    · exact hl
    · rw [List.getElem?_eq_none (by omega)] at hx; cases hx
  have hR := hc.get hx
  have h1 := mul_le_mul_r (z := ρ.sz) hi
  refine ⟨_, ?_, hR⟩
  unfold gcellsI
  rw [add_mk, Nat.zero_add]
  simp only [put_self]
  rw [if_pos ⟨rfl, by simp; omega⟩]
theorem RSl.take {a : Option Addr} {n c m : Nat} (h : RSl ρ G (.slice a n c) xs) (hm : m ≤ n) : RSl ρ G (.slice a m c) (xs.take m) := by
  obtain ⟨a', n', c', hv, h1, h2, h3⟩ := h
  cases hv
  refine ⟨a, m, c, rfl, by rw [List.length_take]; omega, by omega, fun hpos => ?_⟩
  obtain ⟨ad, e1, e2, e3⟩ := h3 (by omega)
  refine ⟨ad, e1, e2, fun i x hx => e3 i x ?_⟩
  rw [List.getElem?_take] at hx
  split at hx
  · exact hx
  · cases hx
theorem Row.apartTy {β : Type} {σ : Rp β} {e2 : TypeId} {G1 : GH} {v w : Value} {ys : List β} (h1 : Row ρ e G0 G v xs) (h2 : Row σ e2 G1 G w ys) (hne : e ≠ e2) : ∀ b n c, w = .slice (some ⟨b, 0, none⟩) n c → notAt v b := by
  obtain ⟨cs, ⟨_, a⟩, _⟩ := h1
  obtain ⟨cs2, ⟨_, a2⟩, _⟩ := h2
  rintro b n c rfl n' c' rfl
  rcases a with ⟨h, _⟩ | ⟨b1, _, c1, h, _, hb1, _⟩
  · cases h
  · cases h
    rcases a2 with ⟨h, _⟩ | ⟨b2, _, c2, h, _, hb2, _⟩
    · cases h
    · cases h; rw [hb1] at hb2; cases hb2; exact hne rfl
theorem Row.keep {β : Type} {σ : Rp β} {e2 : TypeId} {G1 G' : GH} {v w : Value} {ys : List β} (h2 : Row σ e2 G1 G w ys) (hil : G.ile G') (k : ∀ r o, G r = some o → notAt v r → G' r = some o) (hap : ∀ b n c, w = .slice (some ⟨b, 0, none⟩) n c → notAt v b) : Row σ e2 G1 G' w ys := by
  obtain ⟨cs, ⟨h1, a⟩, h3⟩ := h2
  refine ⟨cs, ⟨h1, a.imp id ?_⟩, h3.ile hil⟩
  rintro ⟨b, cap, c, a1, a2, a3, a4⟩
  exact ⟨b, cap, c, a1, a2, k _ _ a3 (hap _ _ _ a1), a4⟩
theorem Row.keepTy {β : Type} {σ : Rp β} {e2 : TypeId} {G1 G' : GH} {v w : Value} {ys : List β} (h2 : Row σ e2 G1 G w ys) (h1 : Row ρ e G0 G v xs) (k : ∀ r o, G r = some o → notAt v r → G' r = some o) (hne : e ≠ e2) : Row σ e2 G1 G' w ys :=
  h2.keep (h1.ileOf k) k (h1.apartTy h2 hne)
end
end Go.GL
