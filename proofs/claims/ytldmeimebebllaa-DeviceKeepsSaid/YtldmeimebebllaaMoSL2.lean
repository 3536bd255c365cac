/-
  slices in the logic.
-/
import Derived.Test.YtldmeimebebllaaMoSL
namespace Go.Mo
set_option linter.unusedVariables false

/-! ## Slices -/
def orp (A B : HP) : HP := ⟨fun o => A.p o ∨ B.p o, fun hl h => h.elim (fun h => .inl (A.up hl h)) (fun h => .inr (B.up hl h))⟩
theorem ent_orl {A B C : HP} (h : Ent A B) : Ent A (orp B C) := fun o ho => .inl (h o ho)
theorem ent_orr {A B C : HP} (h : Ent A C) : Ent A (orp B C) := fun o ho => .inr (h o ho)
theorem or_ent {A B C : HP} (h : Ent A C) (h' : Ent B C) : Ent (orp A B) C := fun o ho => ho.elim (h o) (h' o)
/-- cells that may be read -/
def rslB (z : Nat) (s : Slc) (cs : List Value) : HP := ex fun ad : Addr => ex fun all : List Value => pr (s.base = some ⟨ad.block, ad.off, none⟩ ∧ cs.length = s.len * z ∧ s.len ≤ s.cap ∧ (all.drop ad.off).take (s.len * z) = cs) * ro ad.block all
def rsl (z : Nat) (s : Slc) (cs : List Value) : HP := orp (pr (s.len = 0 ∧ cs = [])) (rslB z s cs)
/-- cells that are owned, from a block's first one on; what room there is behind them -/
def own (z : Nat) (s : Slc) (cs : List Value) : HP := match s.base with
  | none => pr (s.len = 0 ∧ s.cap = 0 ∧ cs = [])
  | some ad => ex fun rest => pr (ad = ⟨ad.block, 0, none⟩ ∧ cs.length = s.len * z ∧ cs.length + rest.length = s.cap * z ∧ s.len ≤ s.cap) * pc ad.block (cs ++ rest)
instance (A B : HP) [h : Pers A] [h' : Pers B] : Pers (orp A B) := ⟨fun o ho => ho.elim (fun ho => .inl (h.core o ho)) (fun ho => .inr (h'.core o ho))⟩
instance (z : Nat) (s : Slc) (cs : List Value) : Pers (rslB z s cs) := by
  unfold rslB; infer_instance
instance (z : Nat) (s : Slc) (cs : List Value) : Pers (rsl z s cs) := by
  unfold rsl; infer_instance
def nilS : Slc := ⟨none, 0, 0⟩
theorem own_nil (z : Nat) : Ent emp (own z ⟨none, 0, 0⟩ []) := fun o _ => ⟨rfl, rfl, rfl⟩
theorem rsl_nil (z : Nat) : Ent emp (rsl z ⟨none, 0, 0⟩ []) := fun o _ => .inl ⟨rfl, rfl⟩
theorem ent_fact {p : Prop} {A B : HP} (h : ∀ o, A.p o → p) (h' : p → Ent A B) : Ent A B := fun o ho => h' (h o ho) o ho
theorem own_rsl (z : Nat) (s : Slc) (cs : List Value) : Ent (own z s cs) (rsl z s cs) := by
  obtain ⟨base, len, cap⟩ := s
  cases base with
  | none => exact fun o ho => .inl ⟨ho.1, ho.2.2⟩
  | some ad =>
    refine Ent.trans ?_ (ent_orr (Ent.refl _))
    show Ent (ex _) _
    refine ex_ent fun rest => pr_ent fun ⟨h1, h2, h3, h4⟩ => ent_ex ad (ent_ex (cs ++ rest) (ent_prr ⟨?_, h2, h4, ?_⟩ (pc_ro _ _)))
    · rw [h1]
    · have : ad.off = 0 := by rw [h1]
      simp only at h2 ⊢
      simp [this, ← h2]
theorem own_len (z : Nat) (s : Slc) (cs : List Value) : Ent (own z s cs) (pr (cs.length = s.len * z ∧ s.len ≤ s.cap)) := by
  unfold own
  cases h : s.base with
  | none => intro o ho; obtain ⟨h1, h2, h3⟩ := ho; subst h3; exact ⟨by simp [h1], by omega⟩
  | some ad => exact ex_ent fun rest => pr_ent fun h o _ => ⟨h.2.1, h.2.2.2⟩
theorem rsl_len (z : Nat) (s : Slc) (cs : List Value) : Ent (rsl z s cs) (pr (cs.length = s.len * z)) := by
  unfold rsl rslB
  refine or_ent (fun o ho => ?_) (ex_ent fun ad => ex_ent fun all => pr_ent fun h o _ => h.2.1)
  obtain ⟨h1, h2⟩ := ho
  show cs.length = s.len * z
  simp [h1, h2]
theorem pc_own {z b n : Nat} {cs : List Value} (h : cs.length = n * z) : Ent (pc b cs) (own z ⟨some ⟨b, 0, none⟩, n, n⟩ cs) := by
  show Ent _ (ex _)
  refine ent_ex [] (ent_prr ⟨rfl, h, by simpa using h, Nat.le_refl _⟩ ?_)
  simp only [List.append_nil]; exact Ent.refl _
theorem own_pc {z b n m : Nat} {cs : List Value} : Ent (own z ⟨some ⟨b, 0, none⟩, n, m⟩ cs) (ex fun rest => pr (cs.length = n * z ∧ cs.length + rest.length = m * z) * pc b (cs ++ rest)) := by
  refine ex_ent fun rest => pr_ent fun h => ent_ex rest (ent_prr ⟨h.2.1, h.2.2.1⟩ (Ent.refl _))

theorem rd_rsl {w : World} {a : Hp} {g : Fr} {H : HP} {s : Slc} {cs : List Value} {n : Nat} {v : Value} (hp : Ent H (rsl 1 s cs)) (ho : Own w a g) (ha : H.p a) (hv : cs[n]? = some v) :
    n < s.len ∧ ∃ b off, s.base = some ⟨b, off, none⟩ ∧ w.cell? ⟨b, off + n, none⟩ = some v := by
  rcases hp a ha with hx | ⟨ad, all, hx⟩
  · rw [hx.2] at hv; simp at hv
  · have hpr := ent_left _ _ a hx
    have hro := ent_right _ _ a hx
    obtain ⟨h1, h2, h3, h4⟩ := hpr
    have hlt : n < s.len := by
      have := (List.getElem?_eq_some_iff.1 hv).1
      omega
    refine ⟨hlt, ad.block, ad.off, h1, ?_⟩
    refine rd_cell (H := ro ad.block all) (Ent.refl _) ho hro ?_
    rw [← h4, List.getElem?_take] at hv
    split at hv
    · simpa using hv
    · cases hv
section
variable {α β σ : Type} {g : Fr} {H H' : HP} {Q : α → HP}
/-- an element that is read -/
theorem wps_rd {enc : β → Value} {k : β → M α} {s : Slc} {i : Int} {cs : List Value} (n : Nat) (x : β) (hp : Ent H (rsl 1 s cs)) (hi : i = (n : Int)) (hv : cs[n]? = some (enc x)) (h : wps g H (k x) Q) :
    wps g H (bindM (idxM s i 1) fun a => bindM (ld enc a) k) Q := fun w a Qf ho ha hq => by
  subst hi
  obtain ⟨hlt, b, off, hb, hc⟩ := rd_rsl hp ho ha hv
  refine ⟨⟨b, off, none⟩, hb, by omega, by omega, ?_⟩
  rw [Addr.add_mk]
  exact ⟨x, by simpa using hc, h w a Qf ho ha hq⟩
/-- the same, where the address serves further -/
theorem wps_rdI {R : HP} {enc : β → Value} {k : β → M α} {s : Slc} {i : Int} {cs : List Value} (n : Nat) (x : β) (hp : Ent R (rsl 1 s cs)) (hR : Ent H R) (hi : i = (n : Int)) (hv : cs[n]? = some (enc x)) (h : wps g H (k x) Q) :
    wps g H (bindM (idxM s i 1) fun a => bindM (ldI (Iv g R) enc a) k) Q := fun w a Qf ho ha hq => by
  subst hi
  obtain ⟨hlt, b, off, hb, hc⟩ := rd_rsl hp ho (hR a ha) hv
  refine ⟨⟨b, off, none⟩, hb, by omega, by omega, ?_⟩
  rw [Addr.add_mk]
  refine ⟨x, fun w' ⟨a', ho', ha'⟩ => ?_, h w a Qf ho ha hq⟩
  obtain ⟨_, b', off', hb', hc'⟩ := rd_rsl hp ho' ha' hv
  rw [hb] at hb'; cases hb'
  simpa using hc'
/-- an element that is written -/
theorem wps_wr {k : Unit → M α} {s : Slc} {i : Int} {cs : List Value} {v : Value} (n : Nat) (hp : H = H' * own 1 s cs) (hi : i = (n : Int)) (hn : n < s.len) (h : wps g (H' * own 1 s (cs.set n v)) (k ()) Q) :
    wps g H (bindM (idxM s i 1) fun a => bindM (st a v) k) Q := by
  subst hp
  obtain ⟨base, len, cap⟩ := s
  cases base with
  | none =>
    refine wps_false ?_
    refine Ent.trans (ent_right _ _) fun o ho => ?_
    have := ho.1
    simp only at this hn
    omega
  | some ad =>
    show wps g (H' * ex _) _ _
    refine wps_exr fun rest => ?_
    rw [star_left_comm]
    refine wps_pr fun ⟨h1, h2, h3, h4⟩ => ?_
    rw [h1]
    refine wps_idx n rfl hi hn ?_
    have h2' : cs.length = len := by simpa using h2
    have hn' : n < len := hn
    refine wps_st (by simp only [List.length_append]; omega) (wps_pre ?_ h)
    refine Ent.starr ?_
    show Ent _ (ex _)
    refine ent_ex rest (ent_prr ⟨h1, by simpa using h2, by simpa using h3, h4⟩ ?_)
    simp only [Nat.zero_add, Nat.mul_one]
    rw [List.set_append_left _ _ (by omega)]
    exact Ent.refl _

/-! rows of cells -/
def ovw (cs : List Value) (off : Nat) (new : List Value) : List Value := cs.take off ++ new ++ cs.drop (off + new.length)
theorem ovw_nil (cs : List Value) (off : Nat) : ovw cs off [] = cs := by simp [ovw]
theorem ovw_cons {cs : List Value} {off : Nat} {v : Value} {new : List Value} (h : off + (new.length + 1) ≤ cs.length) : ovw (cs.set off v) (off + 1) new = ovw cs off (v :: new) := by
  have hlt : off < cs.length := by omega
  simp only [ovw, List.length_cons, List.append_assoc, List.cons_append]
  rw [List.take_set, List.drop_set_of_lt (by omega)]
  have : List.set (cs.take (off + 1)) off v = cs.take off ++ [v] := by
    rw [List.take_add_one, List.getElem?_eq_getElem hlt]
    rw [List.set_append_right _ _ (by rw [List.length_take]; omega)]
    simp [Nat.min_eq_left (Nat.le_of_lt hlt)]
  rw [this, List.append_assoc, List.singleton_append]
  congr 3
  congr 1
  omega
theorem storeRow_heap {b : Nat} : ∀ (new : List Value) (w : World) (off i : Nat) (cs : List Value) (e : TypeId), w.heap[b]? = some (.cells cs.toArray e) → off + i + new.length ≤ cs.length → (∀ v ∈ new, v.oneCell' = true) →
    storable w ⟨b, off, none⟩ i new ∧ ((storeRow w ⟨b, off, none⟩ i new).os = w.os ∧ (storeRow w ⟨b, off, none⟩ i new).output = w.output) ∧ ∀ y : Nat, (storeRow w ⟨b, off, none⟩ i new).heap[y]? = if y = b then some (.cells (ovw cs (off + i) new).toArray e) else w.heap[y]?
  | [], w, off, i, cs, e, hb, hl, hv => ⟨trivial, ⟨rfl, rfl⟩, fun y => by
      simp only [storeRow, ovw_nil]
      split
      · rename_i h; rw [h, hb]
      · rfl⟩
  | v :: new, w, off, i, cs, e, hb, hl, hv => by
    have hlt : off + i < cs.length := by simp only [List.length_cons] at hl; omega
    have hb' := setCell_heap (off := off + i) (v := v) hb
    have ih := storeRow_heap new (w.setCell ⟨b, off + i, none⟩ v) off (i + 1) (cs.set (off + i) v) e (by rw [hb' b]; simp) (by simp only [List.length_set, List.length_cons] at hl ⊢; omega) (fun v hv' => hv v (List.mem_cons_of_mem _ hv'))
    refine ⟨⟨hv v (List.mem_cons_self ..), ⟨cs[off + i], ?_⟩, ?_, ?_⟩, ?_, fun y => ?_⟩
    · rw [Addr.add_mk]; exact cell_of hb (List.getElem?_eq_getElem hlt)
    · rw [Addr.add_mk]; simp [World.frozen?, hb]
    · rw [Addr.add_mk]; exact ih.1
    · simp only [storeRow, Addr.add_mk]; exact ih.2.1
    · simp only [storeRow, Addr.add_mk]
      rw [ih.2.2 y]
      split
      · rename_i hy
        rw [← Nat.add_assoc, ovw_cons (by simp only [List.length_cons] at hl; omega)]
      · rename_i hy
        rw [hb', if_neg hy]
theorem own_row {w : World} {a : Hp} {g : Fr} {b off : Nat} {cs new : List Value} (ho : Own w a g) (ha : (H * pc b cs).p a) (hl : off + new.length ≤ cs.length) (hv : ∀ v ∈ new, v.oneCell' = true) :
    storable w ⟨b, off, none⟩ 0 new ∧ ∃ a', Own (storeRow w ⟨b, off, none⟩ 0 new) a' g ∧ (H * pc b (ovw cs off new)).p a' := by
  obtain ⟨a2, a1, hd, hl0, h2, e, h1⟩ := ha
  have hl' : Hp.le (Hp.un a1 a2) a := by rw [← Hp.un_comm hd]; exact hl0
  have hb : w.heap[b]? = some (.cells cs.toArray e) := by
    obtain ⟨r, h3, _⟩ := hl' b (.cells cs.toArray e) false (by simp [Hp.un, h1])
    exact ho.2.1 b _ _ h3
  obtain ⟨hs, hso, hh⟩ := storeRow_heap new w off 0 cs e hb (by omega) hv
  have := own_set ho (Hp.dis_symm hd) hl' h1 _ hh hso (fun _ _ _ h => by cases h; rfl)
  exact ⟨hs, _, this.1, a2, _, this.2, Hp.le_refl _, h2, e, by simp⟩
theorem wps_stA {k : Unit → M α} {b off : Nat} {cs vs : List Value} [hp : PickC b H cs H'] (hl : off + vs.length ≤ cs.length) (hv : ∀ v ∈ vs, v.oneCell' = true) (h : wps g (H' * pc b (ovw cs off vs)) (k ()) Q) :
    wps g H (bindM (stA ⟨b, off, none⟩ vs) k) Q := fun w a Qf ho ha hq => by
  rw [hp.eq] at ha
  obtain ⟨hs, a', ho', ha'⟩ := own_row ho ha hl hv
  exact ⟨hs, h _ a' Qf ho' ha' hq⟩

/-! make, append, copy -/
theorem zs_one (v : Value) (n : Nat) : zs [v] n = List.replicate n v := by
  simp only [zs, List.length_singleton, Nat.mul_one]
  apply List.ext_getElem?
  intro i
  simp only [List.getElem?_map, List.getElem?_replicate]
  by_cases hi : i < n
  · rw [List.getElem?_range hi, if_pos hi]; simp [Nat.mod_one]
  · rw [if_neg hi, List.getElem?_eq_none (by simpa using hi)]; rfl
theorem zs_len (z : List Value) (n : Nat) : (zs z n).length = n * z.length := by simp [zs]
theorem wps_make {k : Slc → M α} {z : List Value} {bytes : Nat} {n : Int} (m : Nat) (hn : n = (m : Int)) (hb : bytes * m ≤ 2 ^ 48) (h : ∀ b, wps g (H * pc b (zs z m)) (k ⟨some ⟨b, 0, none⟩, m, m⟩) Q) : wps g H (bindM (makeM z bytes n) k) Q := fun w a Qf ho ha hq => by
  subst hn
  refine ⟨by omega, ?_, fun elem => ?_⟩
  · exact_mod_cast hb
  · have := own_push ho (.cells (zs z m).toArray elem) (World.allocC w (zs z m).toArray elem) rfl ⟨rfl, rfl⟩ (fun _ _ _ h => by cases h; rfl)
    simpa using h w.heap.size _ _ Qf this.1 ⟨a, _, this.2, Hp.le_refl _, ha, ⟨elem, by simp⟩⟩ hq
theorem growBy_le (n : Nat) : ∀ (r c d : Nat), c ≤ d → Builtin.growBy n r c ≤ d * 2 ^ r + 256 * 2 ^ r
  | 0, c, d, h => by simp [Builtin.growBy]; omega
  | r + 1, c, d, h => by
    simp only [Builtin.growBy]
    have h0 : d + 256 ≤ (d + 256) * 2 ^ (r + 1) := Nat.le_mul_of_pos_right _ (Nat.two_pow_pos _)
    split
    · rw [← Nat.add_mul]; omega
    · have := growBy_le n r (c + (c + 768) / 4) (2 * d + 256) (by omega)
      rw [← Nat.add_mul] at this ⊢
      refine Nat.le_trans this ?_
      rw [Nat.pow_succ, ← Nat.mul_assoc]
      have : (2 * d + 256 + 256) = (d + 256) * 2 := by omega
      rw [this, Nat.mul_right_comm]
      exact Nat.le_refl _
theorem nextcap_le {n c : Nat} (h : c ≤ n) : Builtin.nextslicecap n c ≤ 16 * n + 4096 := by
  unfold Builtin.nextslicecap
  split
  · omega
  · split
    · omega
    · have := growBy_le n 4 c n h
      omega
theorem cellsAt_rsl {w : World} {a : Hp} {g : Fr} {z : Nat} {s : Slc} {cs : List Value} (hp : Ent H (rsl z s cs)) (ho : Own w a g) (ha : H.p a) : cellsAt w s.base cs ∧ cs.length = s.len * z := by
  rcases hp a ha with hx | ⟨ad, all, hx⟩
  · rw [hx.2]
    refine ⟨?_, by simp [hx.1]⟩
    unfold cellsAt
    split
    · intro j v hj; simp at hj
    · rfl
  · have hpr := ent_left _ _ a hx
    have hro := ent_right _ _ a hx
    obtain ⟨h1, h2, h3, h4⟩ := hpr
    refine ⟨?_, h2⟩
    rw [h1]
    intro j v hj
    rw [Addr.add_mk]
    refine rd_cell (H := ro ad.block all) (Ent.refl _) ho hro ?_
    rw [← h4, List.getElem?_take] at hj
    split at hj
    · simpa using hj
    · cases hj
theorem wps_append {k : Slc → M α} {z : List Value} {bytes : Nat} {s x : Slc} (old new : List Value) (zl : Nat) (hzl : z.length = zl) (hz : 0 < zl) (hx : Ent H (rsl zl x new)) (hs : H = H' * own zl s old) (hv : ∀ v ∈ new, v.oneCell' = true)
    (hb : (16 * (s.len + x.len) + 4096) * bytes ≤ 2 ^ 48) (h : ∀ s', s'.len = s.len + x.len → wps g (H' * own zl s' (old ++ new)) (k s') Q) :
    wps g H (bindM (appendM z bytes s x) k) Q := fun w a Qf ho ha hq => by
  subst hzl
  obtain ⟨hc, hlx⟩ := cellsAt_rsl hx ho ha
  rw [hs] at ha
  refine ⟨new, hc, fun _ => hlx, ?_⟩
  obtain ⟨base, len, cap⟩ := s
  have hlen := own_len _ _ _ a (ent_right _ _ a ha)
  simp only at hlen h ⊢
  split
  · rename_i hle
    cases base with
    | none =>
      have : own z.length ⟨none, len, cap⟩ old = pr (len = 0 ∧ cap = 0 ∧ old = []) := rfl
      rw [this] at ha
      obtain ⟨h1, h2, h3⟩ := ent_right _ _ a ha
      subst h1 h2 h3
      have hx0 : x.len = 0 := by omega
      rw [hx0, Nat.zero_mul] at hlx
      have hn : new = [] := List.eq_nil_of_length_eq_zero hlx
      subst hn
      refine h ⟨none, 0 + x.len, 0⟩ rfl w a Qf ho ?_ hq
      have h0 := ent_left _ _ a ha
      rw [← star_emp H'] at h0
      refine Ent.starr ?_ a h0
      intro o _
      exact ⟨by simp [hx0], rfl, rfl⟩
    | some ad =>
      have hown : own z.length ⟨some ad, len, cap⟩ old = ex fun rest => pr (ad = ⟨ad.block, 0, none⟩ ∧ old.length = len * z.length ∧ old.length + rest.length = cap * z.length ∧ len ≤ cap) * pc ad.block (old ++ rest) := rfl
      rw [hown, star_ex] at ha
      obtain ⟨rest, ha⟩ := ha
      simp only at ha
      rw [star_left_comm] at ha
      obtain ⟨h1, h2, h3, h4⟩ := ent_left _ _ a ha
      have ha := ent_right _ _ a ha
      have hfit : new.length ≤ rest.length := by
        have : (len + x.len) * z.length ≤ cap * z.length := Nat.mul_le_mul_right _ hle
        rw [Nat.add_mul] at this; omega
      obtain ⟨hst, a', ho', ha'⟩ := own_row (off := len * z.length) ho ha (new := new) (by simp only [List.length_append]; omega) hv
      have had : Addr.add ad (len * z.length) = ⟨ad.block, len * z.length, none⟩ := by rw [h1, Addr.add_mk]; simp
      simp only [had]
      refine ⟨hst, ?_⟩
      refine h ⟨some ad, len + x.len, cap⟩ rfl _ a' Qf ho' ?_ hq
      refine Ent.starr ?_ a' ha'
      show Ent _ (ex _)
      refine ent_ex (rest.drop new.length) (ent_prr ⟨h1, ?_, ?_, hle⟩ ?_)
      · simp only [List.length_append, Nat.add_mul]; omega
      · simp only [List.length_append, List.length_drop]; omega
      · refine Ent.of_eq ?_
        congr 1
        simp only [ovw, ← h2, List.take_left', List.drop_append, List.append_assoc]
        congr 1
        congr 1
        rw [List.drop_eq_nil_of_le (by omega), List.nil_append]
        congr 1; omega
  · rename_i hgt
    refine ⟨?_, old, ?_, fun _ => hlen.1, fun newCap elem hcap => ?_⟩
    · have := nextcap_le (n := len + x.len) (c := cap) (by omega)
      exact Nat.le_trans (Nat.mul_le_mul_right _ this) hb
    · have := cellsAt_rsl (H := own z.length ⟨base, len, cap⟩ old) (own_rsl _ _ _) ho (ent_right _ _ a ha)
      exact this.1
    · have hp := own_push (own_draw ho) (.cells (old ++ new ++ zs z (newCap - (len + x.len))).toArray elem) (World.allocC (drawW w) (old ++ new ++ zs z (newCap - (len + x.len))).toArray elem) rfl ⟨rfl, rfl⟩ (fun _ _ _ h => by cases h; rfl)
      refine h ⟨some ⟨w.heap.size, 0, none⟩, len + x.len, newCap⟩ rfl _ _ Qf hp.1 ?_ hq
      refine ⟨a, _, hp.2, Hp.le_refl _, ent_left _ _ a ha, ?_⟩
      refine ⟨zs z (newCap - (len + x.len)), ?_⟩
      refine (ent_pr (A := pc w.heap.size (old ++ new ++ zs z (newCap - (len + x.len)))) ?_) _ ⟨elem, by simp [drawW]⟩
      refine ⟨rfl, ?_, ?_, hcap⟩
      · simp only [List.length_append, Nat.add_mul]; have := hlen.1; omega
      · simp only [List.length_append, zs_len]
        rw [hlen.1, hlx, ← Nat.add_mul, ← Nat.add_mul]
        congr 1; omega
/-- one element that is put behind -/
theorem wps_append1 {k : Slc → M α} {z v : List Value} {bytes : Nat} {s : Slc} {old : List Value} (zl : Nat) (hzl : z.length = zl) (hz : 0 < zl) (hvl : v.length = zl) (hs : H = H' * own zl s old) (hv : ∀ u ∈ v, u.oneCell' = true)
    (hb : (16 * (s.len + 1) + 4096) * bytes ≤ 2 ^ 48) (h : ∀ s', s'.len = s.len + 1 → wps g (H' * own zl s' (old ++ v)) (k s') Q) :
    wps g H (bindM (allocM v) fun x => bindM (appendM z bytes s ⟨some x, 1, 1⟩) k) Q := by
  refine wps_alloc fun b => ?_
  refine wps_append (H' := H' * pc b v) old v zl hzl hz ?_ (by rw [hs, star_right_comm]) hv hb fun s' hs' => ?_
  · exact Ent.trans (ent_right _ _) (Ent.trans (pc_own (by simpa using hvl)) (own_rsl _ _ _))
  · refine wps_pre ?_ (h s' hs')
    exact Ent.starl (ent_left _ _)
end
end Go.Mo
