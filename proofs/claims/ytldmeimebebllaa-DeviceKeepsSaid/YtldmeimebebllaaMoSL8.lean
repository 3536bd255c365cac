/-
  parts of slices, copies.
-/
import Derived.Test.YtldmeimebebllaaMoSL7
namespace Go.Mo
set_option linter.unusedVariables false

/-! ## Parts of slices; copies -/
def subS (z : Nat) (s : Slc) (l h : Nat) : Slc := ⟨if s.cap = l then s.base else s.base.map (·.add (l * z)), h - l, s.cap - l⟩
theorem rsl_sub {z : Nat} {s : Slc} {cs : List Value} {l h : Nat} (h1 : l ≤ h) (h2 : h ≤ s.len) : Ent (rsl z s cs) (rsl z (subS z s l h) ((cs.drop (l * z)).take ((h - l) * z))) := fun o ho => by
  rcases ho with ho | ho
  · left
    obtain ⟨h0, hc⟩ := ho
    exact ⟨by show h - l = 0; omega, by simp [hc]⟩
  · obtain ⟨ad, all, ho⟩ := ho
    obtain ⟨hb, hl, hle, hcs⟩ := ent_left _ _ o ho
    have ho := ent_right _ _ o ho
    by_cases hc : s.cap = l
    · left
      have : h - l = 0 := by omega
      exact ⟨this, by simp [this]⟩
    · right
      refine ⟨⟨ad.block, ad.off + l * z, none⟩, all, ?_⟩
      refine ent_pr ⟨?_, ?_, ?_, ?_⟩ o ho
      · simp [subS, hc, hb, Addr.add_mk]
      · show _ = (h - l) * z
        rw [List.length_take, List.length_drop, hl, ← Nat.sub_mul]
        exact Nat.min_eq_left (Nat.mul_le_mul_right _ (by omega))
      · show h - l ≤ s.cap - l
        omega
      · show (all.drop (ad.off + l * z)).take ((h - l) * z) = _
        rw [← hcs, List.drop_take, List.drop_drop, List.take_take, ← Nat.sub_mul]
        rw [Nat.min_eq_left (Nat.mul_le_mul_right _ (by omega))]
theorem sliceM_val {s : Slc} {lo hi : Option Int} {size l h : Nat} {g : Fr} {H : HP} (hl : lo.getD 0 = (l : Int)) (hh : hi.getD s.len = (h : Int)) (h1 : l ≤ h) (h2 : h ≤ s.cap) : Val g H (sliceM s lo hi size) (subS size s l h) := fun w a Qf ho ha hq =>
  ⟨l, h, hl, hh, h1, h2, hq _ w a ho (ent_pr rfl a ha)⟩
theorem wps_slice {α : Type} {s : Slc} {lo hi : Option Int} {size : Nat} {g : Fr} {H : HP} {k : Slc → M α} {Q : α → HP} (l h : Nat) (hl : lo.getD 0 = (l : Int)) (hh : hi.getD s.len = (h : Int)) (h1 : l ≤ h) (h2 : h ≤ s.cap) (hk : wps g H (k (subS size s l h)) Q) :
    wps g H (bindM (sliceM s lo hi size) k) Q := wps_val (sliceM_val hl hh h1 h2) hk
theorem ovw_app {a b new : List Value} (h : new.length ≤ a.length) : ovw (a ++ b) 0 new = ovw a 0 new ++ b := by
  simp [ovw, List.drop_append, Nat.sub_eq_zero_of_le h]
theorem ovw_len {a new : List Value} {off : Nat} (h : off + new.length ≤ a.length) : (ovw a off new).length = a.length := by
  simp only [ovw, List.length_append, List.length_take, List.length_drop]; omega
section
variable {α : Type} {g : Fr} {H H' : HP} {Q : α → HP}
theorem rsl_cap {z : Nat} {s : Slc} {cs : List Value} : Ent (rsl z s cs) (pr (s.base.isSome = true → s.len ≤ s.cap ∨ s.len = 0)) := fun o ho => by
  rcases ho with ho | ⟨ad, all, ho⟩
  · exact fun _ => .inr ho.1
  · exact fun _ => .inl (ent_left _ _ o ho).2.2.1
theorem wps_copy {k : Int → M α} {z : Nat} {d x : Slc} {old new : List Value} (hx : Ent H (rsl z x new)) (hd : H = H' * own z d old) (hv : ∀ v ∈ new, v.oneCell' = true)
    (h : wps g (H' * own z d (ovw old 0 (new.take (min x.len d.len * z)))) (k ((min x.len d.len : Nat) : Int)) Q) : wps g H (bindM (copyM z d x) k) Q := fun w a Qf ho ha hq => by
  obtain ⟨hc, hlx⟩ := cellsAt_rsl hx ho ha
  have hlen : old.length = d.len * z ∧ d.len ≤ d.cap := by
    rw [hd] at ha
    exact own_len _ _ _ a (ent_right _ _ a ha)
  have hmin : min x.len d.len * z ≤ d.len * z := Nat.mul_le_mul_right _ (Nat.min_le_right _ _)
  have hmin' : min x.len d.len * z ≤ x.len * z := Nat.mul_le_mul_right _ (Nat.min_le_left _ _)
  refine ⟨new.take (min x.len d.len * z), ?_, fun _ => ?_, ?_⟩
  · cases hb : x.base with
    | none =>
      rw [hb] at hc
      have : new = [] := hc
      subst this
      show List.take _ [] = []
      simp
    | some ad =>
      rw [hb] at hc
      intro j v hj
      rw [List.getElem?_take] at hj
      split at hj
      · exact hc j v hj
      · cases hj
  · rw [List.length_take, hlx]
    show _ = min x.len d.len * z
    omega
  · rw [hd] at ha
    obtain ⟨base, len, cap⟩ := d
    cases base with
    | none =>
      have h0 := ent_right _ _ a ha
      obtain ⟨e1, e2, e3⟩ := h0
      simp only at e1 e2 e3
      subst e1 e2 e3
      have hz : ∀ n : Nat, min n 0 = 0 := fun n => by omega
      simp only [hz, Nat.zero_mul, List.take_zero, ovw_nil] at h
      have : ∀ n : Nat, Nat.min n 0 = 0 := fun n => Nat.min_zero n
      simp only [this]
      exact h w a Qf ho ha hq
    | some ad =>
      have hown : ∀ cs, own z ⟨some ad, len, cap⟩ cs = ex fun rest => pr (ad = ⟨ad.block, 0, none⟩ ∧ cs.length = len * z ∧ cs.length + rest.length = cap * z ∧ len ≤ cap) * pc ad.block (cs ++ rest) := fun _ => rfl
      rw [hown, star_ex] at ha
      obtain ⟨rest, ha⟩ := ha
      simp only at ha
      rw [star_left_comm] at ha
      obtain ⟨h1, h2, h3, h4⟩ := ent_left _ _ a ha
      have ha := ent_right _ _ a ha
      simp only at hlen hmin
      have hnl : (new.take (min x.len len * z)).length ≤ old.length := by rw [List.length_take]; omega
      obtain ⟨hst, a', ho', ha'⟩ := own_row (off := 0) ho ha (new := new.take (min x.len len * z)) (by simp only [List.length_append]; omega) (fun v hv' => hv v (List.mem_of_mem_take hv'))
      show storable w ad 0 _ ∧ _
      rw [h1]
      refine ⟨hst, ?_⟩
      refine h _ a' Qf ho' ?_ hq
      rw [hown, star_ex]
      refine ⟨rest, ?_⟩
      show HP.p (H' * (pr _ * pc _ _)) _
      rw [star_left_comm]
      rw [ovw_app hnl] at ha'
      have hol : (ovw old 0 (new.take (min x.len len * z))).length = old.length := ovw_len (by omega)
      exact ent_pr ⟨h1, hol.trans h2, by rw [hol]; exact h3, h4⟩ _ ha'
theorem wps_copyS {k : Int → M α} {z : Nat} {d x : Slc} {old new : List Value} [hp : PickS z d H old H'] (hx : Ent H (rsl z x new)) (hv : ∀ v ∈ new, v.oneCell' = true)
    (h : wps g (H' * own z d (ovw old 0 (new.take (min x.len d.len * z)))) (k ((min x.len d.len : Nat) : Int)) Q) : wps g H (bindM (copyM z d x) k) Q := wps_copy hx hp.eq hv h
/-- a call whose precondition is two, three chunks -/
theorem wps_call2 {β : Type} {m : M β} {k : β → M α} {A1 A2 H1 H2 : HP} {Q' : β → HP} [h1 : Has H A2 H1] [h2 : Has H1 A1 H2] (hs : ∀ g', wps g' (A1 * A2) m Q') (h' : ∀ x, wps g (H2 * Q' x) (k x) Q) : wps g H (bindM m k) Q :=
  wps_call hs (Ent.of_eq (by rw [h1.eq, h2.eq, star_assoc])) h'
theorem wps_call3 {β : Type} {m : M β} {k : β → M α} {A1 A2 A3 H1 H2 H3 : HP} {Q' : β → HP} [h1 : Has H A3 H1] [h2 : Has H1 A2 H2] [h3 : Has H2 A1 H3] (hs : ∀ g', wps g' (A1 * A2 * A3) m Q') (h' : ∀ x, wps g (H3 * Q' x) (k x) Q) : wps g H (bindM m k) Q :=
  wps_call hs (Ent.of_eq (by rw [h1.eq, h2.eq, h3.eq]; simp only [star_assoc])) h'
theorem wps_tail2 {m : M α} {A1 A2 H1 H2 : HP} {Q' : α → HP} [h1 : Has H A2 H1] [h2 : Has H1 A1 H2] (hs : ∀ g', wps g' (A1 * A2) m Q') (h' : ∀ x, Ent (H2 * Q' x) (Q x)) : wps g H m Q :=
  wps_tail hs (Ent.of_eq (by rw [h1.eq, h2.eq, star_assoc])) h'
theorem wps_val2 {β : Type} {m : M β} {k : β → M α} {A1 A2 H1 H2 : HP} {v : β} [h1 : Has H A2 H1] [h2 : Has H1 A1 H2] (hs : ∀ g', Val g' (A1 * A2) m v) (h' : wps g H (k v) Q) : wps g H (bindM m k) Q :=
  wps_val (val_frame hs (by rw [h1.eq, h2.eq, star_assoc])) h'
end
end Go.Mo
