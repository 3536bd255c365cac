/-
  A part of the proof: predicate transformers over the model, and a separation logic over them; what functions of the program do.
-/
import Derived.Test.YtldmeimebebllaaGreatDoorPart1
import Derived.Laws.Strings
set_option linter.unusedSimpArgs false
namespace Go.Proofs.Ytldmeimebebllaa
open Go.Mo
set_option linter.unusedVariables false
variable {g : Fr}
def Dk.flushed (D : Dk) (p : Int → Bool) : Dk := { D with lasts := fun k => match D.cached k with | some b => if p k then b else D.lasts k | none => D.lasts k }
def Dk.clean (D : Dk) : Dk := { D with cached := fun _ => none }
theorem Dk.ok_flushed {D : Dk} {ns : Nat} (h : D.ok ns) (p : Int → Bool) : (D.flushed p).ok ns := by
  refine ⟨fun k hk => ?_, h.2⟩
  simp only [Dk.flushed]
  cases hc : D.cached k with
  | none => exact h.1 k hk
  | some b =>
    simp only
    split
    · exact (h.2 k b hc).1
    · exact h.1 k hk
def Rk.setD (R : Rk) (j : Nat) (D : Dk) : Rk := { R with dk := fun i => if i = j then D else R.dk i }
def Rk.flush (R : Rk) (k : Int) : Rk := if R.gate k 0 64 = 0 then (R.gated k 0 64).setD k.toNat (((R.gated k 0 64).dk k.toNat).flushed fun _ => true).clean else R.gated k 0 64
theorem rackP_set {rb : Nat} {R : Rk} {ds : Slc} {ps : List Nat} {j : Nat} (D : Dk) (hj : j < R.n) :
    pr (ps.length = R.n ∧ ds.len = R.n ∧ R.n ≤ 17 ∧ R.ns ≤ 4096) * bst R.n (hole j (rackF R.ns R.dk ps)) * own 1 ds (ps.map pv) * pc rb [vS ds, .int .i64 R.ns, .int .i64 R.count, .bool R.off] * dskAt R.ns (ps.getD j 0) D = rackP rb (R.setD j D) ds ps := by
  rw [rackP_focus rb (R.setD j D) ds ps (j := j) hj]
  have hho : bst R.n (hole j (rackF R.ns R.dk ps)) = bst R.n (hole j (rackF R.ns (R.setD j D).dk ps)) := hole_congr fun i _ hne => by
    simp only [rackF, Rk.setD, if_neg hne]
  rw [hho]
  simp only [Rk.setD, if_true]
theorem device_Rack_Flush_spec (rb : Nat) (R : Rk) (ds : Slc) (ps : List Nat) (k : Int) :
    wps g (rackP rb R ds ps) (device_Rack_Flush (ptr rb) k) (fun e => pr (e = R.gate k 0 64) * rackP rb (R.flush k) ds ps) := by
  unfold device_Rack_Flush
  refine wps_bind (device_Rack_counted_spec rb R ds ps k 0 64) fun x => wps_pr fun hx => ?_
  subst hx
  by_cases h0 : R.gate k 0 64 = 0
  · obtain ⟨ho, hr, hs, hc, hgd⟩ := gate_ok h0
    refine wps_ite (fun _ => ?_) (fun h => absurd (by simp [gateV, h0]) h)
    have hlt : k.toNat < (R.gated k 0 64).n := by rw [hgd]; simp [Rk.ticked, hc]; omega
    have hfl : R.flush k = (R.gated k 0 64).setD k.toNat (((R.gated k 0 64).dk k.toNat).flushed fun _ => true).clean := by rw [Rk.flush, if_pos h0]
    have hgv : (gateV R ps k 0 64).1 = ptr (ps.getD k.toNat 0) := by simp [gateV, h0]
    have hgv2 : (gateV R ps k 0 64).2 = R.gate k 0 64 := rfl
    rw [hfl, hgv, hgv2, ← rackP_set _ hlt, rackP_focus rb (R.gated k 0 64) ds ps hlt]
    generalize R.gated k 0 64 = R1 at *
    generalize R1.dk k.toNat = D at *
    refine wps_tail (F := pr (ps.length = R1.n ∧ ds.len = R1.n ∧ R1.n ≤ 17 ∧ R1.ns ≤ 4096) * bst R1.n (hole k.toNat (rackF R1.ns R1.dk ps)) * own 1 ds (ps.map pv) * pc rb [vS ds, .int .i64 R1.ns, .int .i64 R1.count, .bool R1.off])
      (A := dskAt R1.ns (ps.getD k.toNat 0) D) (Q' := fun e => pr (e = R.gate k 0 64) * dskAt R1.ns (ps.getD k.toNat 0) (D.flushed fun _ => true).clean) (fun g => ?_) (Ent.refl _) (fun e => by rw [star_left_comm]; exact Ent.refl _)
    generalize ps.getD k.toNat 0 = p
    generalize R.gate k 0 64 = e0
    unfold dskAt dskX
    refine wps_ex fun ls => wps_ex fun mb => wps_ex fun sl => wps_ex fun sc => wps_prP fun hd => ?_
    repeat first | (with_reducible refine wps_nil ?_) | (refine wps_ld _ (by rfl) ?_)
    refine wps_rangeMap fun it => ?_
    have hD : D.ok R1.ns := hd.2.2
    refine wps_loopg (γ := (Int → Bool) × List Slc) (fun c _ => pr (c.2.length = R1.ns) * seqp c.2 (D.flushed c.1).lasts * cachep sc D.cached * own 1 ls (c.2.map vS) * pc p [vS ls, .map (some mb), .bool D.failed, .int .i64 D.count] * itr it mb (fun j => Option.map (fun _ => vS (sc j)) (D.cached j)) c.1) (fun c _ => toCome R1.ns c.1) (fun _ => false, sl) ?_ fun c _ => ?_
    · refine ent_pick (ent_pick (ent_pick (ent_pick ?_)))
      refine ent_prr hd.1 (Ent.trans (ent_drop (B := seqp sl D.lasts)) (seqp_ext fun i _ => ?_))
      simp only [Dk.flushed]
      cases D.cached i <;> rfl
    · obtain ⟨V, sl'⟩ := c
      simp only
      refine wps_prP fun hsl => ?_
      refine wps_next rfl (fun hall => ?_) (fun j v hj hV => ?_)
      · refine wps_mapR ?_
        repeat first | (with_reducible refine wps_nil ?_) | (refine wps_ld _ (by rfl) ?_)
        refine wps_swap (itr_imap it mb (fun j => Option.map (fun _ => vS (sc j)) (D.cached j)) V) (wps_clearS (wps_pure ?_))
        refine ent_prr rfl (ent_ex ls (ent_ex mb (ent_ex sl' (ent_ex sc ?_))))
        simp only [← star_assoc]
        refine ent_pickC (by rfl) (ent_pick (ent_pickM rfl (ent_pers ?_ (cachep_nil _ _))))
        refine ent_prr ⟨hsl, hd.2.1, ?_⟩ (Ent.trans (ent_drop (B := seqp sl' (D.flushed V).lasts)) (seqp_ext fun i _ => ?_))
        · exact ⟨(Dk.ok_flushed hD fun _ => true).1, fun j b h => by cases h⟩
        · show (D.flushed V).lasts i = (D.flushed fun _ => true).lasts i
          simp only [Dk.flushed]
          cases hci : D.cached i with
          | none => rfl
          | some b =>
            have := hall i (vS (sc i)) (by rw [hci]; rfl)
            simp [this]
      · cases hcj : D.cached j with
        | none => rw [hcj] at hj; cases hj
        | some b =>
          rw [hcj] at hj
          have hv : v = vS (sc j) := (Option.some.inj hj).symm
          obtain ⟨hb, hj0, hjn⟩ := hD.2 j b hcj
          refine wps_entry (sc j) rfl hv ?_
          repeat first | (with_reducible refine wps_nil ?_) | (refine wps_ld _ (by rfl) ?_)
          refine wps_wrS j.toNat (by simp; omega) (by omega) ?_
          refine wps_pure ?_
          refine Ent.trans ?_ (ent_ex (fun i => V i || i == j, sl'.set j.toNat (sc j)) (ent_prr (toCome_lt ⟨hj0, hjn⟩ hV) (Ent.refl _)))
          simp only
          refine ent_pick (ent_pick (ent_pickS (by rw [List.map_set]; rfl) ?_))
          refine ent_and (ent_prr (by simpa using hsl) (Ent.trans (seqp_set (k := j.toNat) (ent_drop (B := seqp sl' (D.flushed V).lasts)) (Ent.trans (ent_drop (B := cachep sc D.cached)) (cachep_get hcj))) (seqp_ext fun i _ => ?_))) ent_drop
          simp only [Dk.flushed]
          by_cases hij : i = j.toNat
          · have hij' : (i : Int) = j := by omega
            rw [if_pos hij, hij', hcj]
            simp
          · have hij' : ¬ (i : Int) = j := by omega
            rw [if_neg hij]
            cases D.cached i with
            | none => rfl
            | some b2 => simp [hij']
  · refine wps_ite (fun h => absurd (by simpa [gateV] using h) h0) (fun _ => wps_pure ?_)
    rw [Rk.flush, if_neg h0]
    exact ent_prr rfl (Ent.refl _)
end Go.Proofs.Ytldmeimebebllaa

namespace Go.Proofs.Ytldmeimebebllaa
open Go.Mo
set_option linter.unusedVariables false
variable {g : Fr} {cv : CV}
def zv (b : List Int) : List Value := b.map (Value.int .i64)
def intsP (s : Slc) (b : List Int) : HP := rsl 1 s (zv b)
instance (s : Slc) (b : List Int) : Pers (intsP s b) := by unfold intsP; infer_instance
instance (s : Slc) (b : List Int) : RdS 1 s (intsP s b) (zv b) := ⟨Ent.refl _⟩
instance (s : Slc) (b : List Int) : RdS 1 s (byt s b) (bv b) := ⟨Ent.refl _⟩
theorem cap_of {H : HP} {z : Nat} {s : Slc} {cs : List Value} (h : Ent H (rsl z s cs)) : Ent H (pr (s.len ≤ s.cap)) := Ent.trans h fun o ho => by
  rcases ho with ho | ⟨ad, all, ho⟩
  · show s.len ≤ s.cap
    have := ho.1
    omega
  · exact (ent_left _ _ o ho).2.2.1
def Rk.arm (R : Rk) (c : Int) : Rk := { R with count := maxI c (-1) }
theorem device_Rack_Off_val (rb : Nat) (R : Rk) (ds : Slc) (ps : List Nat) : Val g (rackP rb R ds ps) (device_Rack_Off (ptr rb)) R.off := by
  unfold device_Rack_Off rackP
  repeat first | (with_reducible refine wps_nil ?_) | (refine wps_ld _ (by rfl) ?_) | (with_reducible exact wps_pure (ent_val rfl))
def Rk.lErr (R : Rk) (k s : Int) : Int := if k < 0 ∨ k ≥ R.n ∨ s < 0 ∨ s ≥ R.ns then 11 else 0
def Rk.lst (R : Rk) (k s : Int) : List Int := if R.lErr k s = 0 then (R.dk k.toNat).lasts s.toNat else []
def secOf (im : List Int) (k : Nat) : List Int := (List.range 64).map fun i => im.getD (k * 64 + i) 0
def Dk.load (D : Dk) (im : List Int) : Dk := { D with lasts := fun s => secOf im s, cached := fun _ => none }
def Rk.load (R : Rk) (k : Int) (im : List Int) : Rk := if k < 0 ∨ k ≥ R.n then R else R.setD k.toNat ((R.dk k.toNat).load im)
end Go.Proofs.Ytldmeimebebllaa
namespace Go.Proofs.Ytldmeimebebllaa
open Go.Mo
set_option linter.unusedVariables false
variable {g : Fr} {cv : CV}
def I6.nil : I6 := (0, 0, 0, 0, 0, 0)
def pickI (l : List I6) (i : Nat) : I6 := ((l.filter fun x => decide (I6.idx x = (i : Int))).headD I6.nil)
theorem pickI_of {l l' : List I6} (hp : l'.Perm l) {i : Nat} (h : cnt l i = 1) {x : I6} (hx : x ∈ l') (hi : I6.idx x = i) : pickI l i = x := by
  unfold pickI
  have h1 : (l.filter fun x => decide (I6.idx x = (i : Int))).length = 1 := by rw [← List.countP_eq_length_filter]; exact h
  have h2 : x ∈ l.filter fun x => decide (I6.idx x = (i : Int)) := List.mem_filter.2 ⟨hp.mem_iff.1 hx, by simpa using hi⟩
  match l.filter fun x => decide (I6.idx x = (i : Int)), h1, h2 with
  | [y], _, h2 => exact (List.mem_singleton.1 h2).symm
theorem sorted_take {l l' : List I6} (hp : l'.Perm l) (h : SortedF cf_scan_Groups_c1 l') (h0 : ∀ x ∈ l, 0 ≤ I6.idx x) {c : Int} (hw : wholeC l c = true) : l'.take c.toNat = (List.range c.toNat).map (pickI l) ∧ c.toNat ≤ l'.length ∧ 1 ≤ c := by
  unfold wholeC at hw
  simp only [Bool.and_eq_true, decide_eq_true_eq, List.all_eq_true, List.mem_range, beq_iff_eq] at hw
  obtain ⟨a1, a2, a3⟩ := sorted_first h (fun x hx => h0 x (hp.mem_iff.1 hx)) c.toNat fun i hi => by rw [cnt_perm hp]; exact hw.2 i hi
  refine ⟨?_, a1, hw.1⟩
  apply List.ext_getElem?
  intro i
  rw [List.getElem?_take, List.getElem?_map]
  by_cases hi : i < c.toNat
  · have hil : i < l'.length := by omega
    rw [if_pos hi, List.getElem?_range hi, List.getElem?_eq_getElem hil, Option.map_some]
    exact congrArg some (pickI_of hp (hw.2 i hi) (List.getElem_mem hil) (a2 i _ hi (List.getElem?_eq_getElem hil))).symm
  · rw [if_neg hi, List.getElem?_eq_none (by simpa using hi)]; rfl
abbrev Gr := Int × Int × List Int
def groupK (l : List I6) (k : Int × Int) : Gr := (k.1, (pickI (grp l k) (k.2.toNat - 1)).root, (List.range k.2.toNat).map fun i => (pickI (grp l k) i).seg)
theorem grp_ok {l : List I6} {k : Int × Int} : ∀ x ∈ grp l k, 0 ≤ I6.idx x := fun x hx => by
  unfold grp at hx
  have := (List.mem_filter.1 hx).2
  simp only [Bool.and_eq_true] at this
  have h := of_decide_eq_true (show decide (0 ≤ I6.idx x ∧ I6.idx x ≤ I6.seq x) = true from this.1)
  exact h.1
def grRow (x : Gr × Slc) : Int × Int × Slc := (x.1.1, x.1.2.1, x.2)
def segsP (zs : List (Gr × Slc)) : HP := al fun x : Gr × Slc => imp (x ∈ zs) (intsP x.2 x.1.2.2)
instance (zs : List (Gr × Slc)) : Pers (segsP zs) := by unfold segsP; infer_instance
def groupsO (y : Slc) (gs : List Gr) : HP := ex fun zs : List (Gr × Slc) => pr (zs.map (·.1) = gs) * segsP zs * own 3 y ((zs.map grRow).flatMap encG3)
theorem encG3_len (x : Int × Int × Slc) : (encG3 x).length = 3 := rfl
theorem segsP_nil (A : HP) : Ent A (segsP []) := fun o _ x hx => by simp at hx
theorem segsP_snoc {zs : List (Gr × Slc)} {x : Gr × Slc} {A : HP} (h : Ent A (segsP zs)) (h2 : Ent A (intsP x.2 x.1.2.2)) : Ent A (segsP (zs ++ [x])) := fun o ho y hy => by
  rcases List.mem_append.1 hy with hy | hy
  · exact h o ho y hy
  · have : y = x := by simpa using hy
    subst this
    exact h2 o ho
theorem segsP_get {zs : List (Gr × Slc)} {x : Gr × Slc} (hx : x ∈ zs) : Ent (segsP zs) (intsP x.2 x.1.2.2) := fun o ho => ho x hx
theorem segsP_perm {zs zs' : List (Gr × Slc)} (h : zs'.Perm zs) : Ent (segsP zs) (segsP zs') := fun o ho x hx => ho x (h.mem_iff.1 hx)
end Go.Proofs.Ytldmeimebebllaa
namespace Go.Proofs.Ytldmeimebebllaa
open Go.Mo
set_option linter.unusedVariables false
variable {g : Fr} {cv : CV}
theorem ent_pr5 {p : Prop} {A B C D E F : HP} (hp : p) (h : Ent F (A * B * C * D * E)) : Ent F (pr p * A * B * C * D * E) := Ent.trans h (Ent.trans (ent_pr hp) (Ent.of_eq (by simp only [star_assoc])))
theorem groups_build {F : HP} {t s3 : Slc} {ms : List I6} {zs : List (Gr × Slc)} {q r : Int} {x10 : Nat} (hn : ms.length ≤ 100000) (ht : Ent F (rsl 6 t (ms.flatMap encI6))) (hz : s3.len ≤ 100000) {Q : Slc ⊕ Slc → HP}
    (hQ : ∀ s4 u, Ent (F * segsP (zs ++ [((q, r, ms.map I6.seg), u)]) * own 3 s4 (((zs ++ [((q, r, ms.map I6.seg), u)]).map grRow).flatMap encG3)) (Q (.inl s4))) :
    wps g (F * pc x10 [.int .i64 q, .int .i64 r, .slice none 0 0] * segsP zs * own 3 s3 ((zs.map grRow).flatMap encG3))
      (loopM (fun (s5 : (Int)) =>
              (if (decide (s5 < ((t.len : Nat) : Int))) = true then
                bindM (idxM t s5 6) fun x84 =>
                  bindM (ldA (fun y : (Int × Int × Int × Int × Int × Int) => [(.int .i64 y.1), (.int .i64 y.2.1), (.int .i64 y.2.2.1), (.int .i64 y.2.2.2.1), (.int .i64 y.2.2.2.2.1), (.int .i64 y.2.2.2.2.2)]) x84) fun x85 =>
                  bindM (allocM [(.int .i64 0), (.int .i64 0), (.int .i64 0), (.int .i64 0), (.int .i64 0), (.int .i64 0)]) fun x12 =>
                  bindM (stA x12 [(.int .i64 x85.1), (.int .i64 x85.2.1), (.int .i64 x85.2.2.1), (.int .i64 x85.2.2.2.1), (.int .i64 x85.2.2.2.2.1), (.int .i64 x85.2.2.2.2.2)]) fun _ =>
                  bindM (ld vS (Addr.add ⟨x10, 0, none⟩ 2)) fun x87 =>
                  bindM (ld (Value.int .i64) x12) fun x89 =>
                  bindM (allocM [(.int .i64 x89)]) fun x90 =>
                  bindM (appendM [(.int .i64 0)] 8 x87 ⟨some x90, 1, 1⟩) fun x91 =>
                  bindM (st (Addr.add ⟨x10, 0, none⟩ 2) (.slice x91.base x91.len x91.cap)) fun _ =>
                  pureM (.inl (w64 (s5 + 1)))
                else
                mapR (bindM (ldA (fun y : (Int × Int × Slc) => [(.int .i64 y.1), (.int .i64 y.2.1), (.slice y.2.2.base y.2.2.len y.2.2.cap)]) ⟨x10, 0, none⟩) fun x95 =>
                  bindM (allocM [(.int .i64 x95.1), (.int .i64 x95.2.1), (.slice x95.2.2.base x95.2.2.len x95.2.2.cap)]) fun x96 =>
                  bindM (appendM [(.int .i64 0), (.int .i64 0), (.slice none 0 0)] 40 s3 ⟨some x96, 1, 1⟩) fun x97 =>
                  pureM (.inl x97)))) 0) Q := by
  refine wps_fact (Ent.trans (ent_pick1 (A := F)) (Ent.trans ht (rsl_len _ _ _))) fun hlen => ?_
  rw [flat_len encI6_len] at hlen
  have hlen : ms.length = t.len := by omega
  refine wps_loop (fun st => ex fun i : Nat => ex fun u : Slc => pr (st = (i : Int) ∧ i ≤ ms.length ∧ u.len = i) * F * pc x10 [.int .i64 q, .int .i64 r, vS u] * segsP zs * own 3 s3 ((zs.map grRow).flatMap encG3) * own 1 u (zv ((ms.take i).map I6.seg))) (fun st => (ms.length - st).toNat) ?_ fun st => ?_
  · refine ent_ex 0 (ent_ex ⟨none, 0, 0⟩ ?_)
    refine ent_own0 (z := 1) ?_
    refine ent_pr4 ⟨rfl, by omega, rfl⟩ (Ent.refl _)
  refine wps_ex fun i => wps_ex fun u => wps_prP fun ⟨hi, hin, hu⟩ => ?_
  refine wps_ite (fun hc => ?_) (fun hc => ?_)
  · have hlt : i < ms.length := by simp only [decide_eq_true_eq] at hc; omega
    have hget : ms[i]? = some ms[i] := List.getElem?_eq_getElem hlt
    have htk : ms.take (i + 1) = ms.take i ++ [ms[i]] := by rw [List.take_add_one, hget]; rfl
    refine wps_rdA i ms[i] (Ent.trans (ent_pick1 (A := F)) ht) hi (by simp) (fun j v hj => ?_) ?_
    · have h5 : j < 6 := by have := (List.getElem?_eq_some_iff.1 hj).1; simpa using this
      rw [flat_get encI6_len hget h5]; exact hj
    refine wps_alloc fun x12 => ?_
    refine wps_stA (by simp) (by simp [Value.oneCell']) ?_
    refine wps_ld u (by rfl) ?_
    refine wps_ld (I6.seg ms[i]) (by rfl) ?_
    refine wps_alloc fun x90 => ?_
    refine wps_app 1 [.int .i64 (I6.seg ms[i])] rfl (by decide) (Ent.trans (ent_pick1 (A := pc x90 [.int .i64 (I6.seg ms[i])])) (rsl_pc rfl)) (by simp [Value.oneCell']) (show (16 * (u.len + 1) + 4096) * 8 ≤ 2 ^ 48 by omega) fun u2 hu2 => ?_
    refine wps_st (by simp) ?_
    have hrg : w64 (st + 1) = ((i + 1 : Nat) : Int) := range_add1 hi (by omega)
    refine wps_pure (ent_prr (by rw [hrg]; omega) (ent_ex (i + 1) (ent_ex u2 ?_)))
    have hzv : zv ((ms.take (i + 1)).map I6.seg) = zv ((ms.take i).map I6.seg) ++ [.int .i64 (I6.seg ms[i])] := by rw [htk, List.map_append]; simp only [zv, List.map_append, List.map_cons, List.map_nil]
    rw [hzv]
    refine ent_pr5 ⟨hrg, by omega, by rw [hu2, hu]⟩ ?_
    repeat (first
      | (with_reducible exact ent_drop)
      | (with_reducible refine ent_pick ?_)
      | (refine ent_pickC (by rfl) ?_)
      | (refine ent_pickS (by rfl) ?_)
      | (refine ent_pickM (by rfl) ?_)
      | (refine ent_prx ?_ ?_; rotate_left)
      | (refine ent_prq ?_))
  · have hie : i = ms.length := by simp only [decide_eq_true_eq] at hc; omega
    have htl : ms.take i = ms := by rw [hie, List.take_length]
    rw [htl]
    refine wps_mapR ?_
    refine wps_ldA (q, r, u) (by rfl) ?_
    refine wps_alloc fun x96 => ?_
    dsimp only
    refine wps_app 3 (encG3 (q, r, u)) rfl (by decide) (Ent.trans (ent_pick1 (A := pc x96 [.int .i64 q, .int .i64 r, .slice u.base u.len u.cap])) (rsl_pc rfl)) (by simp [encG3, vS, Value.oneCell']) (show (16 * (s3.len + 1) + 4096) * 40 ≤ 2 ^ 48 by omega) fun s4 hs4 => ?_
    refine wps_pure ?_
    have e1 : Ent (segsP zs * own 1 u (zv (ms.map I6.seg))) (segsP (zs ++ [((q, r, ms.map I6.seg), u)])) := segsP_snoc (ent_left _ _) (Ent.trans (ent_right _ _) (own_rsl _ _ _))
    have e2 : ((zs ++ [((q, r, ms.map I6.seg), u)]).map grRow).flatMap encG3 = (zs.map grRow).flatMap encG3 ++ encG3 (q, r, u) := by simp [grRow]
    refine Ent.trans (B := F * (segsP zs * own 1 u (zv (ms.map I6.seg))) * own 3 s4 ((zs.map grRow).flatMap encG3 ++ encG3 (q, r, u))) ?_ (Ent.trans (Ent.starl (Ent.starr e1)) ?_)
    · simp only [← star_assoc]
      repeat (first
        | (with_reducible exact ent_drop)
        | (with_reducible refine ent_pick ?_)
        | (refine ent_pickC (by rfl) ?_)
        | (refine ent_pickS (by rfl) ?_)
        | (refine ent_pickM (by rfl) ?_)
        | (refine ent_prx ?_ ?_; rotate_left)
        | (refine ent_prq ?_))
    · rw [← e2]
      exact hQ s4 u
end Go.Proofs.Ytldmeimebebllaa
namespace Go.Proofs.Ytldmeimebebllaa
open Go.Mo
set_option linter.unusedVariables false
variable {g : Fr} {cv : CV}
def wholeK (l : List I6) (k : Int × Int) : Bool := wholeC (grp l k) k.2
structure Go2 (l : List I6) (ks ds rs : List (Int × Int)) (zs : List (Gr × Slc)) : Prop where
  all : (ds ++ rs).Perm ks
  got : (zs.map (·.1)).Perm ((ds.filter (wholeK l)).map (groupK l))
def visF (ds : List (Int × Int)) : Int × Int → Bool := fun k => decide (k ∈ ds)
theorem visF_cons (ds : List (Int × Int)) (j : Int × Int) : (fun i => visF ds i || i == j) = visF (j :: ds) := by
  funext i
  unfold visF
  by_cases h : i = j
  · subst h; simp
  · have : (i == j) = false := by simpa using h
    simp [h, this]
theorem Go2.step_no {l : List I6} {ks ds rs : List (Int × Int)} {zs : List (Gr × Slc)} {j : Int × Int} (h : Go2 l ks ds rs zs) (hj : j ∈ rs) (hw : wholeK l j = false) : Go2 l ks (j :: ds) (rs.erase j) zs := ⟨by
  refine List.Perm.trans ?_ h.all
  have h1 : rs.Perm (j :: rs.erase j) := List.perm_cons_erase hj
  exact (List.perm_middle.symm).trans ((List.Perm.refl ds).append h1.symm), by rw [List.filter_cons, if_neg (by simp [hw])]; exact h.got⟩
theorem Go2.step_yes {l : List I6} {ks ds rs : List (Int × Int)} {zs : List (Gr × Slc)} {j : Int × Int} (h : Go2 l ks ds rs zs) (hj : j ∈ rs) (hw : wholeK l j = true) (u : Slc) : Go2 l ks (j :: ds) (rs.erase j) (zs ++ [(groupK l j, u)]) := ⟨by
  refine List.Perm.trans ?_ h.all
  have h1 : rs.Perm (j :: rs.erase j) := List.perm_cons_erase hj
  exact (List.perm_middle.symm).trans ((List.Perm.refl ds).append h1.symm), by
  rw [List.filter_cons, if_pos hw, List.map_cons, List.map_append, List.map_cons, List.map_nil]
  exact List.perm_append_comm.trans (List.Perm.cons _ h.got)⟩
theorem Go2.done {l : List I6} {ks ds rs : List (Int × Int)} {zs : List (Gr × Slc)} (h : Go2 l ks ds rs zs) (hn : ks.Nodup) (ha : ∀ k ∈ ks, k ∈ ds) : (zs.map (·.1)).Perm ((ks.filter (wholeK l)).map (groupK l)) := by
  have hr : rs = [] := by
    cases rs with
    | nil => rfl
    | cons r rs =>
      have h1 : r ∈ ks := h.all.mem_iff.1 (by simp)
      have h2 := ha r h1
      have h3 := (h.all.nodup_iff).2 hn
      exact absurd rfl ((List.nodup_append.1 h3).2.2 r h2 r (by simp))
  subst hr
  have h4 : ds.Perm ks := by simpa using h.all
  exact h.got.trans ((h4.filter _).map _)
end Go.Proofs.Ytldmeimebebllaa
namespace Go.Proofs.Ytldmeimebebllaa
open Go.Mo
set_option linter.unusedVariables false
variable {g : Fr} {cv : CV}
def remP (l : List I6) (rs : List (Int × Int)) (slf : Int × Int → Slc) : HP := lst rs fun k => own 6 (slf k) ((grp l k).flatMap encI6)
theorem remP_open {l : List I6} {rs : List (Int × Int)} {k : Int × Int} {slf : Int × Int → Slc} (h : k ∈ rs) : remP l rs slf = remP l (rs.erase k) slf * own 6 (slf k) ((grp l k).flatMap encI6) := lst_erase (F := fun k => own 6 (slf k) ((grp l k).flatMap encI6)) h
def outP (l : List I6) (ks : List (Int × Int)) (y : Slc) : HP := ex fun zs : List (Gr × Slc) => pr ((zs.map (·.1)).Perm ((ks.filter (wholeK l)).map (groupK l)) ∧ SortedF cf_scan_Groups_c2 (zs.map grRow)) * segsP zs * own 3 y ((zs.map grRow).flatMap encG3)
theorem perm_pull {α β : Type} {f : α → β} : ∀ {l' : List β} {l : List α}, l'.Perm (l.map f) → ∃ z : List α, z.Perm l ∧ z.map f = l' := by
  intro l' l h
  generalize hm : l.map f = m at h
  induction h generalizing l with
  | nil => exact ⟨[], by rw [List.map_eq_nil_iff.1 hm], rfl⟩
  | cons x h ih =>
    rename_i a b
    match l, hm with
    | y :: l, hm =>
      simp only [List.map_cons, List.cons.injEq] at hm
      obtain ⟨z, h1, h2⟩ := ih hm.2
      exact ⟨y :: z, h1.cons y, by rw [List.map_cons, h2, hm.1]⟩
  | swap x y t =>
    match l, hm with
    | a :: b :: l, hm =>
      simp only [List.map_cons, List.cons.injEq] at hm
      exact ⟨b :: a :: l, List.Perm.swap _ _ _, by simp [hm.1, hm.2.1, hm.2.2]⟩
  | trans h1 h2 ih1 ih2 =>
    obtain ⟨z, a1, a2⟩ := ih2 hm
    obtain ⟨z2, b1, b2⟩ := ih1 a2
    exact ⟨z2, b1.trans a1, b2⟩
theorem Go2.few {l : List I6} {ks ds rs : List (Int × Int)} {zs : List (Gr × Slc)} (h : Go2 l ks ds rs zs) (hk : KsOk l ks) : zs.length ≤ l.length := by
  have h1 := h.got.length_eq
  have h2 := h.all.length_eq
  have h3 := hk.few
  have h4 := List.length_filter_le (wholeK l) ds
  simp only [List.length_map, List.length_append] at h1 h2
  omega
theorem scan_Groups_raw (s : Slc) (l : List I6) (hl : l.length ≤ 100000) : wps g (infosP s l) (scan_Groups s) (fun y => ex fun ks => pr (KsOk l ks) * infosP s l * outP l ks y) := by
  unfold scan_Groups
  simp only [Addr.add_add, Nat.reduceAdd]
  refine groups_first hl fun m ks slf hks => ?_
  refine wps_rangeMap2 (H' := infosP s l * heldP l ks slf) (f := mapF ks slf) (m := m) (by ac_rfl) fun it => ?_
  refine wps_loopg (γ := List (Int × Int) × List (Int × Int) × List (Gr × Slc)) (fun c (st : Slc) => pr (Go2 l ks c.1 c.2.1 c.2.2) * infosP s l * itr2 it m (mapF ks slf) (visF c.1) * remP l c.2.1 slf * segsP c.2.2 * own 3 st ((c.2.2.map grRow).flatMap encG3)) (fun c _ => c.2.1.length) ([], ks, []) ?_ fun c st => ?_
  · rw [show (fun _ : Int × Int => false) = visF [] by funext k; simp [visF]]
    refine ent_own0 (z := 3) (ent_pers ?_ (segsP_nil _))
    show Ent _ (_ * infosP s l * _ * heldP l ks slf)
    refine ent_pr3 ⟨by simp, by simp⟩ ?_
    repeat (first
      | (with_reducible exact ent_drop)
      | (with_reducible refine ent_pick ?_)
      | (refine ent_pickC (by rfl) ?_)
      | (refine ent_pickS (by rfl) ?_)
      | (refine ent_pickM (by rfl) ?_)
      | (refine ent_prx ?_ ?_; rotate_left)
      | (refine ent_prq ?_))
  obtain ⟨ds, rs, zs⟩ := c
  refine wps_prP fun hgo => ?_
  have hgo : Go2 l ks ds rs zs := hgo
  have hzl : zs.length ≤ l.length := hgo.few hks
  refine wps_next2 (H' := infosP s l * remP l rs slf * segsP zs * own 3 st ((zs.map grRow).flatMap encG3)) (f := mapF ks slf) (V := visF ds) (by simp only [emp_star]; ac_rfl) (fun hall => ?_) (fun j v hf hv => ?_)
  · dsimp only
    refine wps_mapR ?_
    refine wps_sortF (γ := Int × Int × Slc) (H' := infosP s l * remP l rs slf * segsP zs * itr2 it m (mapF ks slf) (visF ds)) (l := zs.map grRow) (by decide) encG3_len (by ac_rfl) (by simp; omega) fun l' hp hs => ?_
    obtain ⟨z, z1, z2⟩ := perm_pull hp
    have hd := hgo.done hks.nodup fun k hk => by
      have := hall k _ (show mapF ks slf k = some (vS (slf k)) by simp [mapF, hk])
      exact of_decide_eq_true this
    refine wps_pure ?_
    rw [← z2]
    refine ent_ex ks (Ent.trans (B := infosP s l * (segsP z * own 3 st ((z.map grRow).flatMap encG3))) ?_ ?_)
    · refine Ent.trans (B := infosP s l * (segsP zs * own 3 st ((z.map grRow).flatMap encG3))) ?_ (Ent.starr (Ent.starl (segsP_perm z1)))
      simp only [← star_assoc]
      repeat (first
        | (with_reducible exact ent_drop)
        | (with_reducible refine ent_pick ?_)
        | (refine ent_pickC (by rfl) ?_)
        | (refine ent_pickS (by rfl) ?_)
        | (refine ent_pickM (by rfl) ?_)
        | (refine ent_prx ?_ ?_; rotate_left)
        | (refine ent_prq ?_))
    · have ho : Ent (segsP z * own 3 st ((z.map grRow).flatMap encG3)) (outP l ks st) := ent_ex z (Ent.trans (ent_pr (p := (z.map (·.1)).Perm ((ks.filter (wholeK l)).map (groupK l)) ∧ SortedF cf_scan_Groups_c2 (z.map grRow)) ⟨(z1.map _).trans hd, by rw [z2]; exact hs⟩) (Ent.of_eq (by simp only [star_assoc])))
      exact Ent.trans (Ent.starr ho) (Ent.trans (ent_pr hks) (Ent.of_eq (by simp only [star_assoc])))
  · have hjk : j ∈ ks ∧ v = vS (slf j) := by
      unfold mapF at hf
      split at hf
      · exact ⟨by assumption, (Option.some.inj hf).symm⟩
      · cases hf
    have hjr : j ∈ rs := by
      rcases List.mem_append.1 (hgo.all.mem_iff.2 hjk.1) with h | h
      · exact absurd (decide_eq_true h) (by unfold visF at hv; simp [hv])
      · exact h
    dsimp only
    refine wps_entry2 (H' := infosP s l * remP l rs slf * segsP zs * own 3 st ((zs.map grRow).flatMap encG3)) (slf j) rfl hjk.2 ?_
    rw [visF_cons]
    refine wps_alloc fun x8 => ?_
    refine wps_stA (by simp) (by simp [Value.oneCell']) ?_
    refine wps_pre (H' := infosP s l * remP l (rs.erase j) slf * segsP zs * own 3 st ((zs.map grRow).flatMap encG3) * itr2 it m (mapF ks slf) (visF (j :: ds)) * pc x8 [.int .i64 j.1, .int .i64 j.2] * own 6 (slf j) ((grp l j).flatMap encI6)) ?_ ?_
    · rw [remP_open hjr]
      simp only [← star_assoc]
      repeat (first
        | (with_reducible exact ent_drop)
        | (with_reducible refine ent_pick ?_)
        | (refine ent_pickC (by rfl) ?_)
        | (refine ent_pickS (by rfl) ?_)
        | (refine ent_pickM (by rfl) ?_)
        | (refine ent_prx ?_ ?_; rotate_left)
        | (refine ent_prq ?_))
    have hgl := grp_len l j
    refine wps_sortF (γ := I6) (by decide) encI6_len rfl (by omega) fun l' hp hs => ?_
    refine wps_eq (H' := infosP s l * remP l (rs.erase j) slf * segsP zs * own 3 st ((zs.map grRow).flatMap encG3) * itr2 it m (mapF ks slf) (visF (j :: ds)) * pc x8 [.int .i64 j.1, .int .i64 j.2] * own 6 (slf j) (l'.flatMap encI6)) rfl ?_
    refine wps_ld j.2 (by rfl) ?_
    have hll : l'.length ≤ 100000 := by rw [hp.length_eq]; omega
    have hw : wholeB l' j.2 = wholeK l j := whole_iff hp hs grp_ok j.2
    refine wps_val (scan_whole_val (l := l') (Ent.trans (ent_right _ _) (own_rsl _ _ _)) (by omega)) ?_
    rw [hw]
    refine wps_ite (fun hno => ?_) (fun hyes => ?_)
    · have hno : wholeK l j = false := by simpa using hno
      refine wps_pure ?_
      refine ent_ex (j :: ds, rs.erase j, zs) (ent_prr (by show (rs.erase j).length < rs.length; have := List.length_erase_of_mem hjr; have := List.length_pos_of_mem hjr; omega) ?_)
      refine ent_pr5 (hgo.step_no hjr hno) ?_
      repeat (first
        | (with_reducible exact ent_drop)
        | (with_reducible refine ent_pick ?_)
        | (refine ent_pickC (by rfl) ?_)
        | (refine ent_pickS (by rfl) ?_)
        | (refine ent_pickM (by rfl) ?_)
        | (refine ent_prx ?_ ?_; rotate_left)
        | (refine ent_prq ?_))
    · have hyes : wholeK l j = true := by simpa using hyes
      obtain ⟨t1, t2, t3⟩ := sorted_take hp hs grp_ok hyes
      refine wps_ld j.2 (by rfl) ?_
      refine wps_fact (Ent.trans (ent_right _ _) (own_len _ _ _)) fun hol => ?_
      rw [flat_len encI6_len] at hol
      have hle : l'.length = (slf j).len := by omega
      generalize hH : infosP s l * remP l (rs.erase j) slf * segsP zs * own 3 st ((zs.map grRow).flatMap encG3) * itr2 it m (mapF ks slf) (visF (j :: ds)) * pc x8 [.int .i64 j.1, .int .i64 j.2] * own 6 (slf j) (l'.flatMap encI6) = HH
      have hv : Val g HH (sliceM (slf j) none (some j.2) 6) (subS 6 (slf j) 0 j.2.toNat) := sliceM_val rfl (by simp; omega) (Nat.zero_le _) (by omega)
      refine wps_val hv ?_
      subst hH
      have hsub : Ent (own 6 (slf j) (l'.flatMap encI6)) (rsl 6 (subS 6 (slf j) 0 j.2.toNat) (((List.range j.2.toNat).map (pickI (grp l j))).flatMap encI6)) := Ent.trans (own_rsl _ _ _) (Ent.trans (rsl_sub (l := 0) (h := j.2.toNat) (by omega) (by omega)) (Ent.of_eq (by
        congr 1
        simp only [Nat.zero_mul, List.drop_zero, Nat.sub_zero]
        rw [flat_take encI6_len, t1])))
      have e6 : (subS 6 (slf j) 0 j.2.toNat).len = j.2.toNat := by simp [subS]
      generalize subS 6 (slf j) 0 j.2.toNat = t at *
      refine wps_regionH ?_
      refine wps_ldI j.1 (by rfl) ?_
      have hn1 : w64 (((t.len : Nat) : Int) - 1) = ((j.2.toNat - 1 : Nat) : Int) := by rw [w64_id (by omega) (by omega)]; omega
      have hget : ((List.range j.2.toNat).map (pickI (grp l j)))[j.2.toNat - 1]? = some (pickI (grp l j) (j.2.toNat - 1)) := by
        rw [List.getElem?_map, List.getElem?_range (by omega)]; rfl
      refine wps_rdFI (f := 5) (j.2.toNat - 1) (I6.root (pickI (grp l j) (j.2.toNat - 1))) (Ent.trans (ent_right _ _) hsub) (Ent.refl _) hn1 (by omega) (by rw [flat_get encI6_len hget (by omega)]; rfl) ?_
      refine wps_stepAlloc fun x10 => ?_
      refine wps_stA (by simp) (by simp [Value.oneCell']) ?_
      refine wps_fact (Ent.trans (ent_pick1 (A := own 3 st ((zs.map grRow).flatMap encG3))) (own_len _ _ _)) fun hst => ?_
      rw [flat_len encG3_len, List.length_map] at hst
      refine wps_pre (H' := (infosP s l * remP l (rs.erase j) slf * itr2 it m (mapF ks slf) (visF (j :: ds)) * pc x8 [.int .i64 j.1, .int .i64 j.2] * own 6 (slf j) (l'.flatMap encI6)) * pc x10 [.int .i64 j.1, .int .i64 (I6.root (pickI (grp l j) (j.2.toNat - 1))), .slice none 0 0] * segsP zs * own 3 st ((zs.map grRow).flatMap encG3)) ?_ ?_
      · repeat (first
          | (with_reducible exact ent_drop)
          | (with_reducible refine ent_pick ?_)
          | (refine ent_pickC (by rfl) ?_)
          | (refine ent_pickS (by rfl) ?_)
          | (refine ent_pickM (by rfl) ?_)
          | (refine ent_prx ?_ ?_; rotate_left)
          | (refine ent_prq ?_))
      refine groups_build (F := infosP s l * remP l (rs.erase j) slf * itr2 it m (mapF ks slf) (visF (j :: ds)) * pc x8 [.int .i64 j.1, .int .i64 j.2] * own 6 (slf j) (l'.flatMap encI6)) (ms := (List.range j.2.toNat).map (pickI (grp l j))) (by simp; omega) (Ent.trans (ent_right _ _) hsub) (by omega) fun s4 u => ?_
      have hg : zs ++ [((j.1, I6.root (pickI (grp l j) (j.2.toNat - 1)), ((List.range j.2.toNat).map (pickI (grp l j))).map I6.seg), u)] = zs ++ [(groupK l j, u)] := by
        simp only [groupK, List.map_map]
        rfl
      rw [hg]
      refine ent_ex (j :: ds, rs.erase j, zs ++ [(groupK l j, u)]) (ent_prr (by show (rs.erase j).length < rs.length; have := List.length_erase_of_mem hjr; have := List.length_pos_of_mem hjr; omega) ?_)
      refine ent_pr5 (hgo.step_yes hjr hyes u) ?_
      simp only [← star_assoc]
      repeat (first
        | (with_reducible exact ent_drop)
        | (with_reducible refine ent_pick ?_)
        | (refine ent_pickC (by rfl) ?_)
        | (refine ent_pickS (by rfl) ?_)
        | (refine ent_pickM (by rfl) ?_)
        | (refine ent_prx ?_ ?_; rotate_left)
        | (refine ent_prq ?_))
end Go.Proofs.Ytldmeimebebllaa
namespace Go.Proofs.Ytldmeimebebllaa
open Go.Mo
set_option linter.unusedVariables false
variable {g : Fr} {cv : CV}
def ltG (x y : Gr) : Bool := decide (x.1 < y.1 ∨ x.1 = y.1 ∧ x.2.2.length < y.2.2.length)
end Go.Proofs.Ytldmeimebebllaa
namespace Go.Proofs.Ytldmeimebebllaa
open Go.Mo
set_option linter.unusedVariables false
variable {g : Fr} {cv : CV}
def MemG (l : List I6) (x : Gr) : Prop := ∃ k, (∃ y ∈ l, I6.ok y = true ∧ I6.key y = k) ∧ wholeK l k = true ∧ groupK l k = x
structure IsG (l : List I6) (gs : List Gr) : Prop where
  mem : ∀ x, x ∈ gs ↔ MemG l x
  srt : gs.Pairwise fun x y => ltG x y = true
theorem ltG_irr (x : Gr) : ltG x x = false := by simp [ltG]
theorem ltG_tr (x y z : Gr) (h1 : ltG x y = true) (h2 : ltG y z = true) : ltG x z = true := by
  unfold ltG at *
  simp only [decide_eq_true_eq] at *
  omega
theorem sorted_mem {α : Type} {lt : α → α → Bool} (hirr : ∀ x, lt x x = false) (htr : ∀ x y z, lt x y = true → lt y z = true → lt x z = true) : ∀ {a b : List α}, (∀ x, x ∈ a ↔ x ∈ b) → a.Pairwise (fun x y => lt x y = true) → b.Pairwise (fun x y => lt x y = true) → a = b
  | [], [], _, _, _ => rfl
  | [], y :: b, h, _, _ => absurd ((h y).2 (by simp)) (by simp)
  | x :: a, [], h, _, _ => absurd ((h x).1 (by simp)) (by simp)
  | x :: a, y :: b, h, ha, hb => by
    have hxy : x = y := by
      rcases List.mem_cons.1 ((h x).1 (by simp)) with e | h1
      · exact e
      rcases List.mem_cons.1 ((h y).2 (by simp)) with e | h2
      · exact e.symm
      have a1 := (List.pairwise_cons.1 hb).1 x h1
      have a2 := (List.pairwise_cons.1 ha).1 y h2
      have := htr _ _ _ a1 a2
      rw [hirr] at this
      cases this
    subst hxy
    have ha1 := (List.pairwise_cons.1 ha).1
    have hb1 := (List.pairwise_cons.1 hb).1
    have : a = b := sorted_mem hirr htr (fun z => ⟨fun hz => by
      rcases List.mem_cons.1 ((h z).1 (by simp [hz])) with e | h1
      · subst e; have := ha1 z hz; rw [hirr] at this; cases this
      · exact h1, fun hz => by
      rcases List.mem_cons.1 ((h z).2 (by simp [hz])) with e | h1
      · subst e; have := hb1 z hz; rw [hirr] at this; cases this
      · exact h1⟩) (List.pairwise_cons.1 ha).2 (List.pairwise_cons.1 hb).2
    rw [this]
theorem IsG.one {l : List I6} {a b : List Gr} (h : IsG l a) (h2 : IsG l b) : a = b := sorted_mem ltG_irr ltG_tr (fun x => (h.mem x).trans (h2.mem x).symm) h.srt h2.srt
theorem wholeC_pos {l : List I6} {c : Int} (h : wholeC l c = true) : 1 ≤ c := by
  unfold wholeC at h
  simp only [Bool.and_eq_true, decide_eq_true_eq] at h
  exact h.1
theorem groupK_len (l : List I6) (k : Int × Int) : (groupK l k).2.2.length = k.2.toNat := by simp [groupK]
theorem groupK_inj {l : List I6} {k j : Int × Int} (hk : wholeK l k = true) (hj : wholeK l j = true) (h1 : (groupK l k).1 = (groupK l j).1) (h2 : (groupK l k).2.2.length = (groupK l j).2.2.length) : k = j := by
  rw [groupK_len, groupK_len] at h2
  have a := wholeC_pos hk
  have b := wholeC_pos hj
  have c : k.1 = j.1 := h1
  obtain ⟨k1, k2⟩ := k
  obtain ⟨j1, j2⟩ := j
  dsimp only at *
  have : k2 = j2 := by omega
  rw [c, this]
theorem nodup_whole {l : List I6} : ∀ {ks : List (Int × Int)}, ks.Nodup → (∀ k ∈ ks, wholeK l k = true) → (ks.map (groupK l)).Nodup
  | [], _, _ => by simp
  | k :: ks, hn, hw => by
    rw [List.map_cons, List.nodup_cons]
    refine ⟨fun hm => ?_, nodup_whole (List.nodup_cons.1 hn).2 fun j hj => hw j (by simp [hj])⟩
    obtain ⟨j, hj, he⟩ := List.mem_map.1 hm
    have := groupK_inj (hw k (by simp)) (hw j (by simp [hj])) (by rw [he]) (by rw [he])
    subst this
    exact (List.nodup_cons.1 hn).1 hj
theorem isG_of {l : List I6} {ks : List (Int × Int)} {zs : List (Gr × Slc)} (hk : KsOk l ks) (hp : (zs.map (·.1)).Perm ((ks.filter (wholeK l)).map (groupK l))) (hs : SortedF cf_scan_Groups_c2 (zs.map grRow)) (hl : ∀ z ∈ zs, z.2.len = z.1.2.2.length) : IsG l (zs.map (·.1)) := by
  have hmem : ∀ x, x ∈ zs.map (·.1) ↔ ∃ k ∈ ks, wholeK l k = true ∧ groupK l k = x := fun x => by
    rw [hp.mem_iff, List.mem_map]
    constructor
    · rintro ⟨k, h1, h2⟩
      exact ⟨k, (List.mem_filter.1 h1).1, (List.mem_filter.1 h1).2, h2⟩
    · rintro ⟨k, h1, h2, h3⟩
      exact ⟨k, List.mem_filter.2 ⟨h1, h2⟩, h3⟩
  refine ⟨fun x => (hmem x).trans ⟨fun ⟨k, h1, h2⟩ => ⟨k, (hk.mem k).1 h1, h2⟩, fun ⟨k, h1, h2⟩ => ⟨k, (hk.mem k).2 h1, h2⟩⟩, ?_⟩
  have hnd : (zs.map (·.1)).Nodup := hp.nodup_iff.2 (nodup_whole (hk.nodup.filter _) fun k h => (List.mem_filter.1 h).2)
  rw [List.pairwise_iff_getElem]
  intro i j hi hj hij
  rw [List.length_map] at hi hj
  unfold SortedF at hs
  rw [List.pairwise_iff_getElem] at hs
  have h1 := hs i j (by simpa using hi) (by simpa using hj) hij
  rw [lt_c2] at h1
  simp only [List.getElem_map, grRow] at h1 ⊢
  rw [hl _ (List.getElem_mem hi), hl _ (List.getElem_mem hj)] at h1
  have hne : ¬ zs[i].1 = zs[j].1 := fun e => by
    have h2 := (List.pairwise_iff_getElem.1 hnd) i j (by simpa using hi) (by simpa using hj) hij
    simp only [List.getElem_map] at h2
    exact h2 e
  obtain ⟨k1, a1, a2, a3⟩ := (hmem zs[i].1).1 (List.mem_map_of_mem (List.getElem_mem hi))
  obtain ⟨k2, b1, b2, b3⟩ := (hmem zs[j].1).1 (List.mem_map_of_mem (List.getElem_mem hj))
  have hd : ¬ (zs[i].1.1 = zs[j].1.1 ∧ zs[i].1.2.2.length = zs[j].1.2.2.length) := fun ⟨e1, e2⟩ => by
    rw [← a3, ← b3] at e1 e2
    have := groupK_inj a2 b2 e1 e2
    subst this
    exact hne (a3.symm.trans b3)
  have h1 := of_decide_eq_false h1
  unfold ltG
  rw [decide_eq_true_eq]
  omega
theorem segs_len (zs : List (Gr × Slc)) : Ent (segsP zs) (pr (∀ z ∈ zs, z.2.len = z.1.2.2.length)) := fun o ho z hz => by
  have h := rsl_len _ _ _ o (segsP_get hz o ho)
  have h : (zv z.1.2.2).length = z.2.len * 1 := h
  simp [zv] at h
  exact h.symm
theorem scan_Groups_spec (s : Slc) (l : List I6) (gs : List Gr) (hg : IsG l gs) (hl : l.length ≤ 100000) : wps g (infosP s l) (scan_Groups s) (fun y => infosP s l * groupsO y gs) := by
  refine wps_post (scan_Groups_raw s l hl) fun y => ?_
  refine ex_ent fun ks => ?_
  rw [star_assoc]
  refine pr_ent fun hks => Ent.starr ?_
  unfold outP groupsO
  refine ex_ent fun zs => ?_
  rw [star_assoc]
  refine pr_ent fun hz => ?_
  refine ent_ex zs ?_
  rw [star_assoc]
  refine fun o ho => ?_
  have hlen : ∀ z ∈ zs, z.2.len = z.1.2.2.length := segs_len zs o (ent_left _ _ o ho)
  exact ent_pr (IsG.one (isG_of hks hz.1 hz.2 hlen) hg) o ho
end Go.Proofs.Ytldmeimebebllaa
namespace Go.Proofs.Ytldmeimebebllaa
open Go.Mo
set_option linter.unusedVariables false
variable {g : Fr} {cv : CV}
theorem grp_perm {l l' : List I6} (h : l'.Perm l) (k : Int × Int) : (grp l' k).Perm (grp l k) := h.filter _
theorem wholeC_perm {l l' : List I6} (h : l'.Perm l) (c : Int) : wholeC l' c = wholeC l c := by
  unfold wholeC
  congr 1
  rw [Bool.eq_iff_iff]
  simp only [List.all_eq_true, beq_iff_eq, cnt_perm h]
theorem wholeC_cnt {l : List I6} {c : Int} (h : wholeC l c = true) {i : Nat} (hi : i < c.toNat) : cnt l i = 1 := by
  unfold wholeC at h
  simp only [Bool.and_eq_true, List.all_eq_true, beq_iff_eq, List.mem_range] at h
  exact h.2 i hi
theorem pickI_perm {l l' : List I6} (h : l'.Perm l) {i : Nat} (hc : cnt l i = 1) : pickI l' i = pickI l i := by
  obtain ⟨x, hx, hi⟩ := List.countP_pos_iff.1 (show 0 < cnt l i by omega)
  have hi := of_decide_eq_true hi
  rw [pickI_of (List.Perm.refl l) hc hx hi]
  exact pickI_of h.symm ((cnt_perm h i).trans hc) hx hi
theorem groupK_perm {l l' : List I6} (h : l'.Perm l) {k : Int × Int} (hw : wholeK l k = true) : groupK l' k = groupK l k := by
  have hp := wholeC_pos hw
  have e : ∀ i, i < k.2.toNat → pickI (grp l' k) i = pickI (grp l k) i := fun i hi => pickI_perm (grp_perm h k) (wholeC_cnt hw hi)
  unfold groupK
  rw [e (k.2.toNat - 1) (by omega)]
  congr 2
  exact List.map_congr_left fun i hi => by rw [e i (List.mem_range.1 hi)]
theorem MemG.perm {l l' : List I6} (h : l'.Perm l) {x : Gr} (hm : MemG l x) : MemG l' x := by
  obtain ⟨k, ⟨y, hy, hk⟩, hw, hx⟩ := hm
  refine ⟨k, ⟨y, h.mem_iff.2 hy, hk⟩, ?_, (groupK_perm h hw).trans hx⟩
  exact (wholeC_perm (grp_perm h k) _).trans hw
theorem IsG.perm {l l' : List I6} {gs : List Gr} (h : l'.Perm l) (hg : IsG l gs) : IsG l' gs := ⟨fun x => (hg.mem x).trans ⟨fun hm => hm.perm h, fun hm => hm.perm h.symm⟩, hg.srt⟩
abbrev C3 := List Int × Nat × Nat
def chkE (c : C3) (k : Nat) : I6 := (c.1.getD k 0, ((c.2.1 + k : Nat) : Int), (c.1.length : Int), (k : Int), 0, if k + 1 = c.1.length then (c.2.2 : Int) else 0)
def chk (c : C3) : List I6 := (List.range c.1.length).map (chkE c)
def gOf (c : C3) : Gr := ((c.2.1 : Int), (c.2.2 : Int), c.1)
def keyC (c : C3) : Int × Int := ((c.2.1 : Int), (c.1.length : Int))
theorem chk_len (c : C3) : (chk c).length = c.1.length := by simp [chk]
theorem chkE_ok (c : C3) (k : Nat) : I6.ok (chkE c k) = true := by
  unfold I6.ok
  rw [decide_eq_true_eq]
  simp only [I6.idx, I6.seq, chkE]
  omega
theorem chkE_key (c : C3) (k : Nat) : I6.key (chkE c k) = keyC c := by
  simp only [I6.key, I6.seq, I6.idx, I6.count, chkE, keyC, Prod.mk.injEq, and_true]
  omega
theorem chk_mem {c : C3} {x : I6} (h : x ∈ chk c) : I6.ok x = true ∧ I6.key x = keyC c := by
  obtain ⟨k, _, rfl⟩ := List.mem_map.1 h
  exact ⟨chkE_ok c k, chkE_key c k⟩
theorem cnt_range (c : C3) (i : Nat) : ∀ n, cnt ((List.range n).map (chkE c)) i = if i < n then 1 else 0
  | 0 => by simp [cnt]
  | n + 1 => by
    rw [List.range_succ, List.map_append, show cnt ((List.range n).map (chkE c) ++ [n].map (chkE c)) i = cnt ((List.range n).map (chkE c)) i + cnt [chkE c n] i from List.countP_append, cnt_range c i n]
    have : cnt [chkE c n] i = if n = i then 1 else 0 := by
      by_cases h : n = i
      · subst h; simp [cnt, I6.idx, chkE]
      · have : ¬ (n : Int) = (i : Int) := by omega
        simp [cnt, I6.idx, chkE, h, this]
    rw [this]
    by_cases h1 : i < n
    · rw [if_pos h1, if_neg (by omega), if_pos (by omega)]
    · by_cases h2 : n = i
      · rw [if_neg h1, if_pos h2, if_pos (by omega)]
      · rw [if_neg h1, if_neg h2, if_neg (by omega)]
theorem chk_whole {c : C3} (h : 1 ≤ c.1.length) : wholeC (chk c) (c.1.length : Int) = true := by
  unfold wholeC
  simp only [Bool.and_eq_true, decide_eq_true_eq, List.all_eq_true, List.mem_range, beq_iff_eq, Int.toNat_natCast]
  exact ⟨by omega, fun i hi => by rw [chk, cnt_range, if_pos hi]⟩
theorem chk_pick {c : C3} {i : Nat} (h : i < c.1.length) : pickI (chk c) i = chkE c i :=
  pickI_of (List.Perm.refl _) (by rw [chk, cnt_range, if_pos h]) (List.mem_map.2 ⟨i, List.mem_range.2 h, rfl⟩) rfl
structure Parts (ps : List (C3 × List I6)) : Prop where
  sub : ∀ p ∈ ps, ∀ x ∈ p.2, x ∈ chk p.1
  pos : ∀ p ∈ ps, 1 ≤ p.1.1.length
  rise : ps.Pairwise fun p q => p.1.2.1 + p.1.1.length ≤ q.1.2.1
theorem grp_app (a b : List I6) (k : Int × Int) : grp (a ++ b) k = grp a k ++ grp b k := List.filter_append ..
theorem grp_all {a : List I6} {k : Int × Int} (h : ∀ x ∈ a, I6.ok x = true ∧ I6.key x = k) : grp a k = a := by
  unfold grp
  rw [List.filter_eq_self]
  intro x hx
  simp [h x hx]
theorem grp_none {a : List I6} {k : Int × Int} (h : ∀ x ∈ a, I6.key x ≠ k) : grp a k = [] := by
  unfold grp
  rw [List.filter_eq_nil_iff]
  intro x hx
  simp [h x hx]
theorem Parts.tail {p : C3 × List I6} {ps : List (C3 × List I6)} (h : Parts (p :: ps)) : Parts ps := ⟨fun q hq => h.sub q (by simp [hq]), fun q hq => h.pos q (by simp [hq]), (List.pairwise_cons.1 h.rise).2⟩
theorem Parts.ne {p : C3 × List I6} {ps : List (C3 × List I6)} (h : Parts (p :: ps)) {q : C3 × List I6} (hq : q ∈ ps) : keyC p.1 ≠ keyC q.1 := fun e => by
  have a := (List.pairwise_cons.1 h.rise).1 q hq
  have b := h.pos p (by simp)
  have e1 : ((p.1.2.1 : Nat) : Int) = ((q.1.2.1 : Nat) : Int) := congrArg Prod.fst e
  omega
theorem Parts.grp : ∀ {ps : List (C3 × List I6)}, Parts ps → ∀ p ∈ ps, grp (ps.flatMap (·.2)) (keyC p.1) = p.2
  | q :: ps, h, p, hp => by
    rw [List.flatMap_cons, grp_app]
    rcases List.mem_cons.1 hp with rfl | hp
    · rw [grp_all fun x hx => chk_mem (h.sub p (by simp) x hx), grp_none, List.append_nil]
      intro x hx
      obtain ⟨q, hq, hx⟩ := List.mem_flatMap.1 hx
      rw [(chk_mem (h.sub q (by simp [hq]) x hx)).2]
      exact (h.ne hq).symm
    · rw [h.tail.grp p hp, grp_none, List.nil_append]
      intro x hx
      rw [(chk_mem (h.sub q (by simp) x hx)).2]
      exact h.ne hp
theorem groupK_chk {l : List I6} {c : C3} (h : Go.Proofs.Ytldmeimebebllaa.grp l (keyC c) = chk c) (h1 : 1 ≤ c.1.length) : groupK l (keyC c) = gOf c := by
  unfold groupK gOf
  rw [h]
  simp only [keyC, Int.toNat_natCast]
  rw [chk_pick (by omega)]
  have e1 : I6.root (chkE c (c.1.length - 1)) = (c.2.2 : Int) := by
    simp only [chkE, I6.root]
    rw [if_pos (by omega)]
  have e2 : (List.range c.1.length).map (fun i => I6.seg (pickI (chk c) i)) = c.1 := by
    rw [List.map_congr_left (g := fun i => c.1.getD i 0) fun i hi => by rw [chk_pick (List.mem_range.1 hi)]; rfl]
    apply List.ext_getElem?
    intro i
    rw [List.getElem?_map]
    by_cases hi : i < c.1.length
    · rw [List.getElem?_range hi, List.getElem?_eq_getElem hi]; simp [List.getElem?_eq_getElem hi]
    · rw [List.getElem?_eq_none (by simpa using hi), List.getElem?_eq_none (by omega)]; rfl
  rw [e1, e2]
theorem Parts.isG {ps : List (C3 × List I6)} (h : Parts ps) (hw : ∀ p ∈ ps, p.2 = chk p.1 ∨ wholeC p.2 p.1.1.length = false) : IsG (ps.flatMap (·.2)) ((ps.filter fun p => wholeC p.2 p.1.1.length).map fun p => gOf p.1) := by
  have hfull : ∀ p ∈ ps, wholeC p.2 p.1.1.length = true → p.2 = chk p.1 := fun p hp h1 => (hw p hp).resolve_right (by simp [h1])
  refine ⟨fun x => ?_, ?_⟩
  · rw [List.mem_map]
    constructor
    · rintro ⟨p, hp, rfl⟩
      obtain ⟨hp, hpw⟩ := List.mem_filter.1 hp
      have hpw : wholeC p.2 p.1.1.length = true := hpw
      have he := hfull p hp hpw
      have hg := h.grp p hp
      refine ⟨keyC p.1, ⟨chkE p.1 0, List.mem_flatMap.2 ⟨p, hp, ?_⟩, chkE_ok _ _, chkE_key _ _⟩, ?_, groupK_chk (hg.trans he) (h.pos p hp)⟩
      · rw [he]; exact List.mem_map.2 ⟨0, List.mem_range.2 (h.pos p hp), rfl⟩
      · unfold wholeK
        rw [hg]; exact hpw
    · rintro ⟨k, ⟨y, hy, _, hk⟩, hwk, rfl⟩
      obtain ⟨p, hp, hyp⟩ := List.mem_flatMap.1 hy
      rw [(chk_mem (h.sub p hp y hyp)).2] at hk
      subst hk
      have hg := h.grp p hp
      unfold wholeK at hwk
      rw [hg] at hwk
      have he := hfull p hp hwk
      exact ⟨p, List.mem_filter.2 ⟨hp, hwk⟩, (groupK_chk (hg.trans he) (h.pos p hp)).symm⟩
  · rw [List.pairwise_map]
    refine (h.rise.filter _).imp_of_mem fun {p q} hp hq hlt => ?_
    have a := h.pos p (List.mem_filter.1 hp).1
    unfold ltG gOf
    rw [decide_eq_true_eq]
    dsimp only
    omega
structure Lay (cs : List C3) : Prop where
  pos : ∀ c ∈ cs, 1 ≤ c.1.length
  rise : cs.Pairwise fun c d => c.2.1 + c.1.length ≤ d.2.1
theorem Lay.parts {cs : List C3} (h : Lay cs) : Parts (cs.map fun c => (c, chk c)) := ⟨fun p hp => by
  obtain ⟨c, _, rfl⟩ := List.mem_map.1 hp
  exact fun x hx => hx, fun p hp => by
  obtain ⟨c, hc, rfl⟩ := List.mem_map.1 hp
  exact h.pos c hc, by rw [List.pairwise_map]; exact h.rise⟩
theorem filter_chk : ∀ {cs : List C3}, (∀ c ∈ cs, 1 ≤ c.1.length) → ((cs.map fun c => (c, chk c)).filter fun p => wholeC p.2 p.1.1.length).map (fun p => gOf p.1) = cs.map gOf
  | [], _ => rfl
  | c :: cs, h => by
    rw [List.map_cons, List.filter_cons, if_pos (chk_whole (h c (by simp))), List.map_cons, List.map_cons, filter_chk fun d hd => h d (by simp [hd])]
theorem Lay.isG {cs : List C3} (h : Lay cs) : IsG (cs.flatMap chk) (cs.map gOf) := by
  have := h.parts.isG fun p hp => by
    obtain ⟨c, _, rfl⟩ := List.mem_map.1 hp
    exact .inl rfl
  rw [filter_chk h.pos, List.flatMap_map] at this
  exact this
theorem erase_not {c : C3} {k : Nat} (hk : k < c.1.length) : wholeC ((chk c).eraseIdx k) c.1.length = false := by
  apply Bool.eq_false_iff.2
  intro h
  have := wholeC_cnt h (i := k) (by simpa using hk)
  obtain ⟨x, hx, hi⟩ := List.countP_pos_iff.1 (show 0 < cnt ((chk c).eraseIdx k) k by omega)
  have hi := of_decide_eq_true hi
  obtain ⟨j, hj, hg⟩ := List.mem_eraseIdx_iff_getElem?.1 hx
  unfold chk at hg
  rw [List.getElem?_map] at hg
  obtain ⟨m, hm, rfl⟩ := Option.map_eq_some_iff.1 hg
  have hjm : j = m := by
    obtain ⟨h1, h2⟩ := List.getElem?_eq_some_iff.1 hm
    simpa using h2
  simp only [I6.idx, chkE] at hi
  omega
theorem Lay.drop {us bs : List C3} {c : C3} (h : Lay (us ++ c :: bs)) {k : Nat} (hk : k < c.1.length) : IsG (us.flatMap chk ++ ((chk c).eraseIdx k ++ bs.flatMap chk)) (us.map gOf ++ bs.map gOf) := by
  have hp : Parts (us.map (fun c => (c, chk c)) ++ (c, (chk c).eraseIdx k) :: bs.map fun c => (c, chk c)) := by
    have h0 := h.parts
    rw [List.map_append, List.map_cons] at h0
    refine ⟨fun p hp => ?_, fun p hp => ?_, ?_⟩
    · rcases List.mem_append.1 hp with hp | hp
      · exact h0.sub p (by simp [hp])
      · rcases List.mem_cons.1 hp with rfl | hp
        · exact fun x hx => List.mem_of_mem_eraseIdx hx
        · exact h0.sub p (by simp [hp])
    · rcases List.mem_append.1 hp with hp | hp
      · exact h0.pos p (by simp [hp])
      · rcases List.mem_cons.1 hp with rfl | hp
        · exact h.pos c (by simp)
        · exact h0.pos p (by simp [hp])
    · have hr := h0.rise
      rw [List.pairwise_append, List.pairwise_cons] at hr ⊢
      refine ⟨hr.1, ⟨hr.2.1.1, hr.2.1.2⟩, fun p hp q hq => ?_⟩
      rcases List.mem_cons.1 hq with rfl | hq
      · exact hr.2.2 p hp (c, chk c) (by simp)
      · exact hr.2.2 p hp q (by simp [hq])
  have := hp.isG fun p hp => by
    rcases List.mem_append.1 hp with hp | hp
    · obtain ⟨d, _, rfl⟩ := List.mem_map.1 hp; exact .inl rfl
    · rcases List.mem_cons.1 hp with rfl | hp
      · exact .inr (erase_not hk)
      · obtain ⟨d, _, rfl⟩ := List.mem_map.1 hp; exact .inl rfl
  rw [List.filter_append, List.filter_cons, if_neg (by simp [erase_not hk]), List.map_append, filter_chk fun d hd => h.pos d (by simp [hd]), filter_chk fun d hd => h.pos d (by simp [hd]), List.flatMap_append, List.flatMap_cons, List.flatMap_map, List.flatMap_map] at this
  exact this
end Go.Proofs.Ytldmeimebebllaa
namespace Go.Proofs.Ytldmeimebebllaa
open Go.Mo
set_option linter.unusedVariables false
variable {g : Fr} {cv : CV}
def isC (R : Rk) (i : Nat) : Bool := ((R.dk (i / R.ns)).cached ((i % R.ns : Nat) : Int)).isSome
def rank (R : Rk) (i : Nat) : Nat := ((List.range i).filter (isC R)).length
def keepB (ks : List Int) (n : Nat) : Bool := if ks.length = 0 then false else bAnd .i64 (ks.getD (n % ks.length) 0) 1 == 1
def Dk.restored (R : Rk) (ks : List Int) (j : Nat) : Dk := ((R.dk j).flushed fun k => keepB ks (rank R (j * R.ns + k.toNat)) && !(R.dk j).failed).clean
def Rk.restore (R : Rk) (ks : List Int) : Rk := { R with off := false, count := -1, dk := fun j => Dk.restored R ks j }
end Go.Proofs.Ytldmeimebebllaa
namespace Go.Proofs.Ytldmeimebebllaa
open Go.Mo
set_option linter.unusedVariables false
variable {g : Fr} {cv : CV}
def flushL : List Int → Rk → Rk × Int
  | [], R => (R, 0)
  | d :: ds, R => if R.gate d 0 64 = 12 then (R.flush d, 12) else flushL ds (R.flush d)
theorem bank_Flush_spec (hcv : DisksOk cv) (bb rb : Nat) (q m : G3) (hq : q.1 ≤ 16) (R : Rk) (ds : Slc) (ps : List Nat) :
    wps g (bnk bb rb q m * rackP rb R ds ps) (bank_Bank_Flush cv (ptr bb)) (fun e => pr (e = (flushL (disksL q m) R).2) * bnk bb rb q m * rackP rb (flushL (disksL q m) R).1 ds ps) := by
  unfold bank_Bank_Flush
  repeat first | (with_reducible refine wps_alloc fun _ => ?_) | (refine wps_ld _ (by rfl) ?_)
  rename_i x1 x2
  refine wps_rangeF (F := emp)
    (fun i => ex fun R' : Rk => pr (flushL (disksL q m) R = flushL ((disksL q m).drop i) R') * rackP rb R' ds ps * pc x1 [.pointer (ptr bb)] * pc x2 [.int .i64 0])
    (fun j => match j with | .ret => ex fun R' : Rk => pr (flushL (disksL q m) R = (R', 12)) * rackP rb R' ds ps * pc x2 [.int .i64 12] | .exit _ => pr False)
    (fun i d t => pr (t = d) * (bnk bb rb q m * ex fun R' : Rk => pr (flushL (disksL q m) R = flushL ((disksL q m).drop i) R') * rackP rb R' ds ps * pc x1 [.pointer (ptr bb)] * pc x2 [.int .i64 0]))
    (disks_iter hcv bb rb q m hq) ?_ ?_ ?_ ?_ ?_ ?_
  · rw [emp_star]
    refine Ent.trans ?_ (Ent.starr (ent_ex R (Ent.refl _)))
    simp only [← star_assoc]
    exact ent_pickC (by rfl) (ent_pickC (by rfl) (ent_pick (ent_prx rfl ent_drop)))
  · intro i d hd g
    exact wps_pure (ent_prr rfl (Ent.refl _))
  · intro i d hd t g
    refine wps_pr fun ht => ?_
    subst ht
    refine wps_exP fun R' => ?_
    simp only [← star_assoc]
    refine wps_prP fun hR => ?_
    rw [drop_cons hd, flushL] at hR
    repeat first | (with_reducible refine wps_nil ?_) | (refine wps_ld _ (by rfl) ?_)
    refine wps_callH (fun _ => device_Rack_Flush_spec rb R' ds ps t) fun e => ?_
    simp only [← star_assoc]
    refine wps_prP fun he => ?_
    subst he
    refine wps_ite (fun h12 => ?_) (fun h12 => ?_)
    · have h12' : R'.gate t 0 64 = 12 := by simpa using h12
      rw [if_pos h12'] at hR
      repeat refine wps_st (by simp) ?_
      refine wps_pure ?_
      refine Ent.trans ?_ (Ent.starr (ent_ex (R'.flush t) (Ent.refl _)))
      simp only [← star_assoc]
      exact ent_pickC (by rw [h12']; rfl) (ent_pick (ent_prx hR ent_drop))
    · have h12' : ¬ R'.gate t 0 64 = 12 := by simpa using h12
      rw [if_neg h12'] at hR
      refine wps_pure ?_
      refine Ent.trans ?_ (Ent.starr (ent_ex (R'.flush t) (Ent.refl _)))
      simp only [← star_assoc]
      exact ent_pick (ent_pick (ent_pick (ent_prx hR ent_drop)))
  · intro D
    refine wps_exP fun R' => ?_
    simp only [← star_assoc]
    refine wps_prP fun hR => ?_
    rw [List.drop_length, flushL] at hR
    repeat refine wps_st (by simp) ?_
    refine wps_take ?_
    repeat refine wps_ld _ (by rfl) ?_
    refine wps_pure ?_
    rw [hR]
    exact ent_pick (ent_pick (ent_prq rfl))
  · intro D
    refine wps_exP fun R' => ?_
    simp only [← star_assoc]
    refine wps_prP fun hR => ?_
    refine wps_take ?_
    repeat refine wps_ld _ (by rfl) ?_
    refine wps_pure ?_
    rw [hR]
    exact ent_pick (ent_pick (ent_prq rfl))
  · intro D id
    exact wps_false (fun o ho => by
      have := ent_right _ _ o (ent_left _ _ o ho)
      exact ent_right _ _ o this)
theorem bank_Read_spec (bb rb : Nat) (q m : G3) (R : Rk) (ds : Slc) (ps : List Nat) (slot s : Int) :
    wps g (bnk bb rb q m * rackP rb R ds ps) (bank_Bank_Read (ptr bb) slot s) (fun x =>
      pr (x.2 = if (slotV q m slot).2 then R.rdErr (slotV q m slot).1 s else 11) * bnk bb rb q m * rackP rb R ds ps * own 1 x.1 (bv (if (slotV q m slot).2 then R.rd (slotV q m slot).1 s else []))) := by
  unfold bank_Bank_Read
  refine wps_valH (fun _ => bank_disk_val bb rb q m slot) ?_
  by_cases hv : (slotV q m slot).2 = true
  · simp only [hv, if_true]
    refine wps_ite (fun h => absurd h (by simp)) (fun _ => ?_)
    repeat first | (with_reducible refine wps_nil ?_) | (refine wps_ld _ (by rfl) ?_)
    refine wps_callH (fun _ => device_Rack_Read_spec rb R ds ps (slotV q m slot).1 s) fun x => wps_pure ?_
    simp only [← star_assoc]
    exact ent_pick (ent_pick (ent_pick ent_drop))
  · simp only [hv, if_false, Bool.false_eq_true]
    refine wps_ite (fun _ => wps_pure ?_) (fun h => absurd rfl h)
    exact ent_own0 (ent_pick (ent_pick (ent_prq rfl)))
def Rk.doom (R : Rk) (k c : Int) : Rk := if k < 0 ∨ k ≥ R.n then R else R.setD k.toNat { R.dk k.toNat with count := maxI c (-1) }
theorem device_Rack_Doom_spec (rb : Nat) (R : Rk) (ds : Slc) (ps : List Nat) (k c : Int) :
    wps g (rackP rb R ds ps) (device_Rack_Doom (ptr rb) k c) (fun e => pr (e = if k < 0 ∨ k ≥ R.n then 11 else 0) * rackP rb (R.doom k c) ds ps) := by
  unfold device_Rack_Doom
  have hp : Ent (rackP rb R ds ps) (pr (ps.length = R.n ∧ ds.len = R.n ∧ R.n ≤ 17 ∧ R.ns ≤ 4096)) := Ent.trans (ent_left _ _) (Ent.trans (ent_left _ _) (ent_left _ _))
  refine wps_fact hp fun ⟨h1, h2, h17, hns⟩ => ?_
  by_cases hk : k < 0 ∨ k ≥ R.n
  · rw [if_pos hk, Rk.doom, if_pos hk]
    refine wps_val (v := true) ?_ (wps_ite (fun _ => wps_pure (ent_prr rfl (Ent.refl _))) (fun h => absurd rfl h))
    unfold rackP
    apply val_eq
    · repeat first | (with_reducible refine wps_nil ?_) | (refine wps_ld _ (by rfl) ?_) | ((with_reducible apply val_ite); rotate_left; refine fun (_ : ¬ _) => ?_; rotate_right; refine fun (_ : _ = true) => ?_) | (with_reducible exact wps_pure (ent_val rfl))
    · rw [h2]
      by_cases h : k < 0
      · simp [h]
      · have : k ≥ R.n := by omega
        simp [h, this]
  · rw [if_neg hk, Rk.doom, if_neg hk]
    have hlt : k.toNat < R.n := by omega
    refine wps_val (v := false) ?_ (wps_ite (fun h => absurd h (by simp)) (fun _ => ?_))
    · unfold rackP
      apply val_eq
      · repeat first | (with_reducible refine wps_nil ?_) | (refine wps_ld _ (by rfl) ?_) | ((with_reducible apply val_ite); rotate_left; refine fun (_ : ¬ _) => ?_; rotate_right; refine fun (_ : _ = true) => ?_) | (with_reducible exact wps_pure (ent_val rfl))
      · rw [h2]
        have a : ¬ k < 0 := by omega
        have b : ¬ k ≥ R.n := by omega
        simp [a]; omega
    · rw [← rackP_set _ hlt, rackP_focus rb R ds ps hlt]
      repeat first | (with_reducible refine wps_nil ?_) | (refine wps_ld _ (by rfl) ?_)
      refine wps_rdS k.toNat (ptr (ps.getD k.toNat 0)) (by omega) (pv_get (by omega)) ?_
      simp only [dskAt, dskX]
      refine wps_exP fun ls => wps_exP fun mb => wps_exP fun sl => wps_exP fun sc => ?_
      simp only [← star_assoc]
      refine wps_prP fun hd => ?_
      repeat first | (with_reducible refine wps_nil ?_) | (refine wps_st (by simp) ?_)
      refine wps_pure ?_
      refine ent_exr ls ?_
      refine ent_exr mb ?_
      refine ent_exr sl ?_
      refine ent_exr sc ?_
      simp only [← star_assoc]
      exact ent_pickC (by rfl) (ent_pick (ent_pick (ent_pick (ent_pick (ent_prx hd (ent_pick (ent_pick (ent_pick (ent_pick (ent_prq trivial))))))))))
end Go.Proofs.Ytldmeimebebllaa
namespace Go.Proofs.Ytldmeimebebllaa
open Go.Mo
set_option linter.unusedVariables false
structure Settled (R : Rk) (f : Nat → Bool) : Prop where
  off : R.off = false
  count : R.count = -1
  failed : ∀ j, (R.dk j).failed = f j
  counts : ∀ j, (R.dk j).count = -1
theorem tickD {D : Dk} (h : D.count = -1) : D.tick = D := by
  obtain ⟨l, c, fl, k⟩ := D
  simp only at h
  subst h
  have hm : maxI (w64 (-1 - 1)) (-1) = -1 := by rw [w64m2]; rfl
  simp only [Dk.tick, hm]
  cases fl <;> rfl
theorem Settled.tick {R : Rk} {f : Nat → Bool} (h : Settled R f) : R.ticked = R := by
  have hdk : (fun j => (R.dk j).tick) = R.dk := by
    funext j; exact tickD (h.counts j)
  have hm : maxI (w64 (R.count - 1)) (-1) = R.count := by rw [h.count, w64m2]; rfl
  have hc : ¬ R.count = 0 := by rw [h.count]; omega
  simp only [Rk.ticked, if_neg hc, hdk, hm]
theorem Settled.gate {R : Rk} {f : Nat → Bool} (h : Settled R f) {k s : Int} (hk : 0 ≤ k ∧ k < R.n) (hs : 0 ≤ s ∧ s < R.ns) : R.gate k s 64 = if f k.toNat then 13 else 0 := by
  unfold Rk.gate
  have hr : ¬ (k < 0 ∨ k ≥ R.n ∨ s < 0 ∨ s ≥ R.ns) := by omega
  rw [if_neg (by simp [h.off]), if_neg hr, if_neg (by omega), if_neg (by rw [h.count]; omega), h.tick, h.failed]
theorem Settled.setD {R : Rk} {f : Nat → Bool} (h : Settled R f) {k : Nat} {D : Dk} (hf : D.failed = f k) (hc : D.count = -1) : Settled (R.setD k D) f := by
  refine ⟨h.off, h.count, fun j => ?_, fun j => ?_⟩
  · simp only [Rk.setD]; split
    · rename_i e; rw [e]; exact hf
    · exact h.failed j
  · simp only [Rk.setD]; split
    · exact hc
    · exact h.counts j
theorem gated_in {R : Rk} (ho : R.off = false) {k s : Int} (hk : 0 ≤ k ∧ k < R.n) (hs : 0 ≤ s ∧ s < R.ns) : R.gated k s 64 = R.ticked := by
  rw [Rk.gated, if_neg]
  rintro (h | h | h)
  · rw [ho] at h; cases h
  · omega
  · exact h rfl
theorem Settled.flush {R R1 : Rk} {f : Nat → Bool} {k : Int} (h : Settled R1 f) (hg : R.gated k 0 64 = R1) : Settled (R.flush k) f := by
  unfold Rk.flush
  rw [hg]
  split
  · exact h.setD (h.failed _) (h.counts _)
  · exact h
theorem flush_n {R : Rk} (k : Int) : (R.flush k).n = R.n ∧ (R.flush k).ns = R.ns := by
  have hg : (R.gated k 0 64).n = R.n ∧ (R.gated k 0 64).ns = R.ns := by
    unfold Rk.gated Rk.ticked
    split
    · exact ⟨rfl, rfl⟩
    · split <;> exact ⟨rfl, rfl⟩
  unfold Rk.flush
  split
  · exact hg
  · exact hg
theorem Settled.flushL {f : Nat → Bool} : ∀ {xs : List Int} {R : Rk}, Settled R f → (∀ d ∈ xs, 0 ≤ d ∧ d < R.n) → 0 < R.ns →
    (flushL xs R).2 = 0 ∧ Settled (flushL xs R).1 f ∧ (flushL xs R).1.n = R.n ∧ (flushL xs R).1.ns = R.ns
  | [], R, h, _, _ => ⟨rfl, h, rfl, rfl⟩
  | d :: xs, R, h, hx, hs => by
    have hd := hx d (by simp)
    have hg := h.gate hd (s := 0) (by omega)
    have h12 : ¬ R.gate d 0 64 = 12 := by rw [hg]; split <;> omega
    simp only [Proofs.Ytldmeimebebllaa.flushL, if_neg h12]
    have hf := h.flush (R := R) (k := d) (by rw [gated_in h.off hd (by omega), h.tick])
    have hn := flush_n (R := R) d
    have ih := Settled.flushL (xs := xs) hf (by rw [hn.1]; exact fun d' hd' => hx d' (by simp [hd'])) (by rw [hn.2]; exact hs)
    rw [hn.1, hn.2] at ih
    exact ih
structure Armed (R : Rk) (f : Nat → Bool) : Prop where
  off : R.off = false
  count : R.count = -1
  failed : ∀ j, (R.dk j).failed = false
  counts : ∀ j, (R.dk j).count = if f j then 0 else -1
theorem Armed.tick {R : Rk} {f : Nat → Bool} (h : Armed R f) : Settled R.ticked f := by
  have hc : ¬ R.count = 0 := by rw [h.count]; omega
  have hm : maxI (w64 (R.count - 1)) (-1) = -1 := by rw [h.count, w64m2]; rfl
  simp only [Rk.ticked, if_neg hc, hm]
  refine ⟨h.off, rfl, fun j => ?_, fun j => ?_⟩
  · simp only [h.failed, h.counts]
    cases f j <;> rfl
  · simp only [h.counts]
    have e1 : w64 (-1 - 1) = -2 := w64m2
    have e2 : w64 (0 - 1) = -1 := w64_id (by omega) (by omega)
    cases f j
    · show maxI (w64 (-1 - 1)) (-1) = -1
      rw [e1]; rfl
    · show maxI (w64 (0 - 1)) (-1) = -1
      rw [e2]; rfl
theorem Armed.flushL {f : Nat → Bool} {d : Int} {xs : List Int} {R : Rk} (h : Armed R f) (hx : ∀ d' ∈ d :: xs, 0 ≤ d' ∧ d' < R.n) (hs : 0 < R.ns) :
    (flushL (d :: xs) R).2 = 0 ∧ Settled (flushL (d :: xs) R).1 f ∧ (flushL (d :: xs) R).1.n = R.n ∧ (flushL (d :: xs) R).1.ns = R.ns := by
  have hd := hx d (by simp)
  have hgd := gated_in h.off hd (s := 0) (by omega)
  have h12 : ¬ R.gate d 0 64 = 12 := by
    unfold Rk.gate
    have hr : ¬ (d < 0 ∨ d ≥ R.n ∨ (0 : Int) < 0 ∨ (0 : Int) ≥ R.ns) := by omega
    rw [if_neg (by simp [h.off]), if_neg hr, if_neg (by omega), if_neg (by rw [h.count]; omega)]
    split <;> omega
  simp only [Proofs.Ytldmeimebebllaa.flushL, if_neg h12]
  have hf := h.tick.flush (R := R) (k := d) hgd
  have hn := flush_n (R := R) d
  have ih := Settled.flushL (xs := xs) hf (by rw [hn.1]; exact fun d' hd' => hx d' (by simp [hd'])) (by rw [hn.2]; exact hs)
  rw [hn.1, hn.2] at ih
  exact ih
end Go.Proofs.Ytldmeimebebllaa
namespace Go.Proofs.Ytldmeimebebllaa
open Go.Mo
set_option linter.unusedVariables false
variable {g : Fr} {cv : CV}
structure Rk.cok (R : Rk) : Prop where
  pow : -1 ≤ R.count ∧ R.count < 9223372036854775808
  dks : ∀ j, -1 ≤ (R.dk j).count ∧ (R.dk j).count < 9223372036854775808
structure RQ (R : Rk) (l1 l2 l3 l4 : Slc) (sl cl : List Slc) (cs : List Int) : Prop where
  hsl : sl.length = R.n * R.ns
  hcl : cl.length = R.n * R.ns
  hcs : cs.length = R.n
  n17 : R.n ≤ 17
  ns4 : R.ns ≤ 4096
  hl1 : l1.len = R.n * R.ns
  hl2 : l2.len = R.n * R.ns
  hl3 : l3.len = R.n
  hl4 : l4.len = R.n
  ok : ∀ j, j < R.n → (R.dk j).ok R.ns
  cnt : ∀ j, j < R.n → (R.dk j).failed = false → cs[j]? = some (R.dk j).count
  cok : R.cok
theorem flat_div {k s ns : Nat} (h : s < ns) : (k * ns + s) / ns = k ∧ (k * ns + s) % ns = s := by
  have h0 : 0 < ns := by omega
  rw [Nat.mul_comm]
  refine ⟨?_, ?_⟩
  · rw [Nat.mul_add_div h0, Nat.div_eq_of_lt h]; omega
  · rw [Nat.mul_add_mod, Nat.mod_eq_of_lt h]
theorem flat_lt {k s n ns : Nat} (hk : k < n) (hs : s < ns) : k * ns + s < n * ns := by
  have : (k + 1) * ns ≤ n * ns := Nat.mul_le_mul_right _ hk
  rw [Nat.add_mul] at this; omega
theorem flat_w {k s : Int} {n ns : Nat} (hk : 0 ≤ k ∧ k < n) (hs : 0 ≤ s ∧ s < ns) (h17 : n ≤ 17) (h4 : ns ≤ 4096) : w64 (w64 (k * (ns : Int)) + s) = ((k.toNat * ns + s.toNat : Nat) : Int) := by
  obtain ⟨K, rfl⟩ : ∃ K : Nat, k = (K : Int) := ⟨k.toNat, by omega⟩
  obtain ⟨S, rfl⟩ : ∃ S : Nat, s = (S : Int) := ⟨s.toNat, by omega⟩
  have h1 : K * ns ≤ 17 * 4096 := Nat.mul_le_mul (by omega) h4
  rw [← Int.natCast_mul, w64_id (n := ((K * ns : Nat) : Int)) (by omega) (by omega), w64_id] <;> (try simp only [Int.toNat_natCast]) <;> omega
def thereB (R : Rk) (k s : Int) : Bool := decide (0 ≤ k ∧ k < R.n ∧ 0 ≤ s ∧ s < R.ns)
end Go.Proofs.Ytldmeimebebllaa
namespace Go.Proofs.Ytldmeimebebllaa
open Go.Mo
set_option linter.unusedVariables false
variable {g : Fr} {cv : CV}
theorem there_true {R : Rk} {k s : Int} (h : thereB R k s = true) : (0 ≤ k ∧ k < R.n) ∧ (0 ≤ s ∧ s < R.ns) := by
  simp only [thereB, decide_eq_true_eq] at h; omega
theorem RQ.at {R : Rk} {l1 l2 l3 l4 : Slc} {sl cl : List Slc} {cs : List Int} (h : RQ R l1 l2 l3 l4 sl cl cs) {k s : Int} (ht : thereB R k s = true) :
    ∃ i : Nat, i < R.n * R.ns ∧ i = k.toNat * R.ns + s.toNat ∧ w64 (w64 (k * (R.ns : Int)) + s) = (i : Int) ∧ rlast R i = (R.dk k.toNat).lasts s.toNat ∧ rcach R i = ((R.dk k.toNat).cached s).getD [] ∧ k.toNat < R.n ∧ s.toNat < R.ns := by
  obtain ⟨hk, hs⟩ := there_true ht
  have hd := flat_div (k := k.toNat) (s := s.toNat) (ns := R.ns) (by omega)
  refine ⟨k.toNat * R.ns + s.toNat, flat_lt (by omega) (by omega), rfl, flat_w hk hs h.n17 h.ns4, ?_, ?_, by omega, by omega⟩
  · rw [rlast, hd.1, hd.2]
  · rw [rcach, hd.1, hd.2, show ((s.toNat : Nat) : Int) = s by omega]
end Go.Proofs.Ytldmeimebebllaa
namespace Go.Proofs.Ytldmeimebebllaa
open Go.Mo
set_option linter.unusedVariables false
variable {g : Fr} {cv : CV}
theorem maxI_bnd {c : Int} (h : c < 9223372036854775808) : -1 ≤ maxI c (-1) ∧ maxI c (-1) < 9223372036854775808 := by
  rw [maxI]; split <;> omega
theorem cnt_tick {c : Int} (h : -1 ≤ c ∧ c < 9223372036854775808) : -1 ≤ maxI (w64 (c - 1)) (-1) ∧ maxI (w64 (c - 1)) (-1) < 9223372036854775808 := by
  rw [w64_id (by omega) (by omega), maxI]; split <;> omega
theorem Rk.cok.arm {R : Rk} (h : R.cok) {c : Int} (hc : c < 9223372036854775808) : (R.arm c).cok := ⟨maxI_bnd hc, h.dks⟩
theorem Rk.cok.setD {R : Rk} (h : R.cok) {k : Nat} {D : Dk} (hD : -1 ≤ D.count ∧ D.count < 9223372036854775808) : (R.setD k D).cok := ⟨h.pow, fun j => by
  simp only [Rk.setD]; split
  · exact hD
  · exact h.dks j⟩
theorem Rk.cok.doom {R : Rk} (h : R.cok) {k c : Int} (hc : c < 9223372036854775808) : (R.doom k c).cok := by
  rw [Rk.doom]; split
  · exact h
  · exact h.setD (maxI_bnd hc)
theorem Rk.cok.ticked {R : Rk} (h : R.cok) : R.ticked.cok := by
  rw [Rk.ticked]; split
  · exact ⟨h.pow, h.dks⟩
  · exact ⟨cnt_tick h.pow, fun j => cnt_tick (h.dks j)⟩
end Go.Proofs.Ytldmeimebebllaa
namespace Go.Proofs.Ytldmeimebebllaa
open Go.Mo
set_option linter.unusedVariables false
variable {g : Fr} {cv : CV}
theorem Rk.cok.put {R : Rk} (h : R.cok) (k s : Int) (b : List Int) : (R.put k s b).cok := ⟨h.pow, fun j => by
  simp only [Rk.put]; split
  · exact h.dks j
  · exact h.dks j⟩
end Go.Proofs.Ytldmeimebebllaa
namespace Go.Proofs.Ytldmeimebebllaa
open Go.Mo
set_option linter.unusedVariables false
variable {g : Fr} {cv : CV}
theorem RQ.setD {R : Rk} {l1 l2 l3 l4 : Slc} {sl cl sl' cl' : List Slc} {cs : List Int} (h : RQ R l1 l2 l3 l4 sl cl cs) {k : Nat} {D : Dk} (hok : k < R.n → D.ok R.ns) (hf : D.failed = (R.dk k).failed) (hc : D.count = (R.dk k).count) (h1 : sl'.length = R.n * R.ns) (h2 : cl'.length = R.n * R.ns) : RQ (R.setD k D) l1 l2 l3 l4 sl' cl' cs := by
  refine ⟨h1, h2, h.hcs, h.n17, h.ns4, h.hl1, h.hl2, h.hl3, h.hl4, fun j hj => ?_, fun j hj hff => ?_, h.cok.setD (by rw [hc]; exact h.cok.dks k)⟩
  · simp only [Rk.setD]
    split
    · rename_i e; subst e; exact hok hj
    · exact h.ok j hj
  · simp only [Rk.setD] at hff ⊢
    by_cases e : j = k
    · subst e
      rw [if_pos rfl] at hff ⊢
      rw [hc]; exact h.cnt j hj (by rw [← hf]; exact hff)
    · rw [if_neg e] at hff ⊢
      exact h.cnt j hj hff
end Go.Proofs.Ytldmeimebebllaa


namespace Go.Proofs.Ytldmeimebebllaa
open Go.Mo
set_option linter.unusedVariables false
variable {g : Fr} {cv : CV}
theorem bAnd_le (x : Int) (m : Nat) (hm : m < 4611686018427387904) : 0 ≤ bAnd .i64 x m ∧ bAnd .i64 x m ≤ m := by
  unfold bAnd
  have h : (BitVec.ofInt IntKind.i64.bits x &&& BitVec.ofInt IntKind.i64.bits (m : Int)).toNat ≤ m := by
    rw [BitVec.toNat_and]
    refine Nat.le_trans Nat.and_le_right ?_
    rw [BitVec.toNat_ofInt]
    show ((m : Int) % (2 ^ 64 : Nat)).toNat ≤ m
    omega
  generalize (BitVec.ofInt IntKind.i64.bits x &&& BitVec.ofInt IntKind.i64.bits (m : Int)).toNat = n at h
  have : IntKind.i64.wrap (n : Int) = (n : Int) := w64_id (by omega) (by omega)
  rw [this]; omega
def one (v : Int) : List Int := v :: List.replicate 63 0
theorem one_len (v : Int) : (one v).length = 64 := by simp [one]
end Go.Proofs.Ytldmeimebebllaa
namespace Go.Proofs.Ytldmeimebebllaa
open Go.Mo
set_option linter.unusedVariables false
variable {g : Fr} {cv : CV}
structure Wr (R : Rk) (sure : Nat → Int) (last : Nat → Option Int) : Prop where
  calm : Calm R
  n : R.n = 2
  ns : R.ns = 4
  lasts : ∀ j k : Nat, j < 2 → k < 4 → (R.dk j).lasts k = one (sure (j * 4 + k))
  cached : ∀ j k : Nat, j < 2 → k < 4 → (R.dk j).cached (k : Int) = (last (j * 4 + k)).map one
theorem Wr.new : Wr (Rk.new 2 4) (fun _ => 0) (fun _ => none) := ⟨Calm.new 2 4, rfl, rfl, fun _ _ _ _ => rfl, fun _ _ _ _ => rfl⟩
theorem Wr.put {R : Rk} {sure : Nat → Int} {last : Nat → Option Int} (h : Wr R sure last) {i : Nat} (hi : i < 8) (v : Int) :
    R.gate ((i / 4 : Nat) : Int) ((i % 4 : Nat) : Int) (one v).length = 0 ∧ Wr (R.write ((i / 4 : Nat) : Int) ((i % 4 : Nat) : Int) (one v)) sure (fun q => if q = i then some v else last q) := by
  have hw := h.calm.write (k := ((i / 4 : Nat) : Int)) (s := ((i % 4 : Nat) : Int)) (b := one v) (by rw [h.n]; omega) (by rw [h.ns]; omega) (one_len v)
  refine ⟨hw.1, ?_⟩
  rw [hw.2]
  refine ⟨h.calm.put _ _ _, h.n, h.ns, fun j k hj hk => ?_, fun j k hj hk => ?_⟩
  · simp only [Rk.put]
    split
    · exact h.lasts j k hj hk
    · exact h.lasts j k hj hk
  · simp only [Rk.put]
    by_cases hji : j = i / 4
    · rw [if_pos (by omega)]
      by_cases hki : k = i % 4
      · simp only [show (k : Int) = ((i % 4 : Nat) : Int) by omega, if_true]
        rw [if_pos (by omega)]; rfl
      · simp only [show ¬ (k : Int) = ((i % 4 : Nat) : Int) by omega, if_false]
        rw [if_neg (by omega)]
        exact h.cached j k hj hk
    · rw [if_neg (by omega), if_neg (by omega)]
      exact h.cached j k hj hk
theorem Wr.restore {R : Rk} {sure : Nat → Int} {last : Nat → Option Int} (h : Wr R sure last) (ks : List Int) {i : Nat} (hi : i < 8) :
    (R.restore ks).lst ((i / 4 : Nat) : Int) ((i % 4 : Nat) : Int) = one (if keepB ks (rank R i) = true then (last i).getD (sure i) else sure i) ∧ (R.restore ks).lErr ((i / 4 : Nat) : Int) ((i % 4 : Nat) : Int) = 0 := by
  have he : (R.restore ks).lErr ((i / 4 : Nat) : Int) ((i % 4 : Nat) : Int) = 0 := by
    rw [Rk.lErr, if_neg]
    show ¬ (_ ∨ _ ≥ (R.n : Int) ∨ _ ∨ _ ≥ (R.ns : Int))
    rw [h.n, h.ns]; omega
  refine ⟨?_, he⟩
  rw [Rk.lst, if_pos he]
  show (Dk.restored R ks ((i / 4 : Nat) : Int).toNat).lasts ((i % 4 : Nat) : Int).toNat = _
  rw [show ((i / 4 : Nat) : Int).toNat = i / 4 by omega, show ((i % 4 : Nat) : Int).toNat = i % 4 by omega]
  simp only [Dk.restored, Dk.clean, Dk.flushed, h.cached (i / 4) (i % 4) (by omega) (by omega), h.lasts (i / 4) (i % 4) (by omega) (by omega), h.calm.failed, h.ns]
  have h1 : i / 4 * 4 + i % 4 = i := by omega
  have h2 : ((i % 4 : Nat) : Int).toNat = i % 4 := by omega
  rw [h1, h2, h1]
  cases last i with
  | none => simp
  | some v => cases keepB ks (rank R i) <;> simp
end Go.Proofs.Ytldmeimebebllaa
namespace Go.Proofs.Ytldmeimebebllaa
open Go.Mo
set_option linter.unusedVariables false
variable {g : Fr} {cv : CV}
theorem Calm.setD {R : Rk} (h : Calm R) {k : Nat} {D : Dk} (hf : D.failed = false) (hc : D.count = -1) : Calm (R.setD k D) := by
  refine ⟨h.off, h.count, fun j => ?_, fun j => ?_⟩
  · simp only [Rk.setD]; split
    · exact hf
    · exact h.failed j
  · simp only [Rk.setD]; split
    · exact hc
    · exact h.counts j
theorem Calm.flush {R : Rk} (h : Calm R) {k : Int} (hk : 0 ≤ k ∧ k < R.n) (hs : 0 < R.ns) : R.gate k 0 64 = 0 ∧ R.flush k = R.setD k.toNat (((R.dk k.toNat).flushed fun _ => true).clean) ∧ Calm (R.flush k) := by
  have hg := h.gate hk (s := 0) (by omega)
  obtain ⟨_, _, _, _, hgd⟩ := gate_ok hg
  have he : R.flush k = R.setD k.toNat (((R.dk k.toNat).flushed fun _ => true).clean) := by rw [Rk.flush, if_pos hg, hgd, h.tick]
  refine ⟨hg, he, ?_⟩
  rw [he]
  exact h.setD (h.failed _) (h.counts _)
theorem Wr.flush {R : Rk} {sure : Nat → Int} {last : Nat → Option Int} (h : Wr R sure last) :
    R.gate 0 0 64 = 0 ∧ (R.flush 0).gate 1 0 64 = 0 ∧ Wr ((R.flush 0).flush 1) (fun q => (last q).getD (sure q)) (fun _ => none) := by
  have h1 := h.calm.flush (k := 0) (by rw [h.n]; omega) (by rw [h.ns]; omega)
  have hn1 := flush_n (R := R) 0
  have h2 := h1.2.2.flush (k := 1) (by rw [hn1.1, h.n]; omega) (by rw [hn1.2, h.ns]; omega)
  have hn2 := flush_n (R := R.flush 0) 1
  refine ⟨h1.1, h2.1, h2.2.2, by rw [hn2.1, hn1.1, h.n], by rw [hn2.2, hn1.2, h.ns], fun j k hj hk => ?_, fun j k hj hk => ?_⟩
  · rw [h2.2.1, h1.2.1]
    have hjj : j = 0 ∨ j = 1 := by omega
    rcases hjj with e | e <;> subst e
    · have hc := h.cached 0 k (by omega) hk
      have hl := h.lasts 0 k (by omega) hk
      simp only [Rk.setD, Dk.flushed, Dk.clean, Int.toNat_zero, show Int.toNat 1 = 1 from rfl, show ¬ (0 : Nat) = 1 by omega, if_false, if_true, hc, hl]
      cases last (0 * 4 + k) <;> rfl
    · have hc := h.cached 1 k (by omega) hk
      have hl := h.lasts 1 k (by omega) hk
      simp only [Rk.setD, Dk.flushed, Dk.clean, Int.toNat_zero, show Int.toNat 1 = 1 from rfl, show ¬ (1 : Nat) = 0 by omega, if_false, if_true, hc, hl]
      cases last (1 * 4 + k) <;> rfl
  · rw [h2.2.1, h1.2.1]
    have hjj : j = 0 ∨ j = 1 := by omega
    rcases hjj with e | e <;> subst e <;> simp [Rk.setD, Dk.clean]
theorem Wr.reads {R : Rk} {sure : Nat → Int} {last : Nat → Option Int} (h : Wr R sure last) (ks : List Int) {i : Nat} (hi : i < 8) :
    (R.restore ks).rd ((i / 4 : Nat) : Int) ((i % 4 : Nat) : Int) = one (if keepB ks (rank R i) = true then (last i).getD (sure i) else sure i) ∧ (R.restore ks).rdErr ((i / 4 : Nat) : Int) ((i % 4 : Nat) : Int) = 0 := by
  have h1 := h.restore ks hi
  have hr : ¬ (((i / 4 : Nat) : Int) < 0 ∨ ((i / 4 : Nat) : Int) ≥ ((R.restore ks).n : Int) ∨ ((i % 4 : Nat) : Int) < 0 ∨ ((i % 4 : Nat) : Int) ≥ ((R.restore ks).ns : Int)) := by
    show ¬ (_ ∨ _ ≥ (R.n : Int) ∨ _ ∨ _ ≥ (R.ns : Int))
    rw [h.n, h.ns]; omega
  have he : (R.restore ks).rdErr ((i / 4 : Nat) : Int) ((i % 4 : Nat) : Int) = 0 := by
    rw [Rk.rdErr, if_neg (by simp [Rk.restore]), if_neg hr, if_neg]
    show ¬ (R.dk _).failed = true
    simp [h.calm.failed]
  refine ⟨?_, he⟩
  rw [← h1.1, Rk.rd, if_pos he, Rk.lst, if_pos h1.2]
  rfl
end Go.Proofs.Ytldmeimebebllaa
namespace Go.Proofs.Ytldmeimebebllaa
open Go.Mo
set_option linter.unusedVariables false
variable {g : Fr} {cv : CV}
structure Pw (R : Rk) (N : Int) (i : Nat) : Prop where
  n : R.n = 1
  ns : R.ns = 2
  failed : (R.dk 0).failed = false
  count : (R.dk 0).count = -1
  on : (i : Int) ≤ N → R.off = false ∧ R.count = N - i
  off : N < i → R.off = true
theorem Pw.new {N : Int} (h : 0 ≤ N) : Pw ((Rk.new 1 2).arm N) N 0 := ⟨rfl, rfl, rfl, rfl, fun _ => ⟨rfl, by show maxI N (-1) = _; rw [maxI, if_neg (by omega)]; simp⟩, fun h' => by omega⟩
theorem Pw.step {R : Rk} {N : Int} {i : Nat} (h : Pw R N i) (hi : i < 1000) (hN : N < 9223372036854775808) {s : Int} (hs : 0 ≤ s ∧ s < 2) :
    R.gate 0 s 64 = (if (i : Int) < N then 0 else 12) ∧ Pw (R.gated 0 s 64) N (i + 1) := by
  have hr : ¬ ((0 : Int) < 0 ∨ (0 : Int) ≥ R.n ∨ s < 0 ∨ s ≥ R.ns) := by rw [h.n, h.ns]; omega
  by_cases h1 : (i : Int) ≤ N
  · obtain ⟨ho, hc⟩ := h.on h1
    have hgd : R.gated 0 s 64 = R.ticked := gated_in ho (by rw [h.n]; omega) (by rw [h.ns]; omega)
    have ho' : ¬ R.off = true := by simp [ho]
    rw [hgd]
    by_cases h2 : (i : Int) = N
    · have hc0 : R.count = 0 := by omega
      refine ⟨?_, ?_⟩
      · rw [Rk.gate, if_neg ho', if_neg hr, if_neg (by omega), if_pos hc0, if_neg (by omega)]
      · rw [Rk.ticked, if_pos hc0]
        exact ⟨h.n, h.ns, h.failed, h.count, fun h' => by omega, fun _ => rfl⟩
    · have hc0 : ¬ R.count = 0 := by omega
      have ht : R.ticked = { R with count := maxI (w64 (R.count - 1)) (-1), dk := fun j => (R.dk j).tick } := by rw [Rk.ticked, if_neg hc0]
      have hd : (R.dk 0).tick = R.dk 0 := tickD h.count
      refine ⟨?_, ?_⟩
      · rw [Rk.gate, if_neg ho', if_neg hr, if_neg (by omega), if_neg hc0, ht]
        show (if ((R.dk 0).tick).failed = true then (13 : Int) else 0) = _
        rw [hd, h.failed, if_neg (by simp), if_pos (by omega)]
      · rw [ht]
        refine ⟨h.n, h.ns, ?_, ?_, fun h' => ⟨ho, ?_⟩, fun h' => by omega⟩
        · show ((R.dk 0).tick).failed = false
          rw [hd, h.failed]
        · show ((R.dk 0).tick).count = -1
          rw [hd, h.count]
        · show maxI (w64 (R.count - 1)) (-1) = _
          rw [hc, w64_id (by omega) (by omega), maxI, if_neg (by omega)]; omega
  · have ho := h.off (by omega)
    refine ⟨?_, ?_⟩
    · rw [Rk.gate, if_pos ho, if_neg (by omega)]
    · rw [Rk.gated, if_pos (.inl ho)]
      exact ⟨h.n, h.ns, h.failed, h.count, fun h' => by omega, fun _ => ho⟩
theorem Pw.write {R : Rk} {N : Int} {i : Nat} (h : Pw R N i) (hi : i < 1000) (hN : N < 9223372036854775808) {s : Int} (hs : 0 ≤ s ∧ s < 2) {b : List Int} (hb : b.length = 64) :
    R.gate 0 s b.length = (if (i : Int) < N then 0 else 12) ∧ Pw (R.write 0 s b) N (i + 1) := by
  have hp := h.step hi hN hs
  rw [hb]
  refine ⟨hp.1, ?_⟩
  rw [Rk.write, hb]
  split
  · obtain ⟨a1, a2, a3, a4, a5, a6⟩ := hp.2
    refine ⟨a1, a2, ?_, ?_, a5, a6⟩
    · exact a3
    · exact a4
  · exact hp.2
theorem Pw.flush {R : Rk} {N : Int} {i : Nat} (h : Pw R N i) (hi : i < 1000) (hN : N < 9223372036854775808) :
    R.gate 0 0 64 = (if (i : Int) < N then 0 else 12) ∧ Pw (R.flush 0) N (i + 1) := by
  have hp := h.step hi hN (s := 0) (by omega)
  refine ⟨hp.1, ?_⟩
  rw [Rk.flush]
  split
  · obtain ⟨a1, a2, a3, a4, a5, a6⟩ := hp.2
    exact ⟨a1, a2, a3, a4, a5, a6⟩
  · exact hp.2
end Go.Proofs.Ytldmeimebebllaa
namespace Go.Proofs.Ytldmeimebebllaa
open Go.Mo
set_option linter.unusedVariables false
variable {g : Fr} {cv : CV}
theorem slotV_in (m : G3) (i : Nat) (hi : i < 3) : (slotV (3, 3, 12) m i).2 = true ∧ (slotV (3, 3, 12) m i).1 = (if m.2.2 ≠ 0 ∧ m.2.1 = i then 3 else (i : Int)) := by
  have h : ¬ ((i : Int) < 0 ∨ (i : Int) ≥ 3) := by omega
  simp only [slotV]
  rw [if_neg h]
  split <;> exact ⟨rfl, rfl⟩
theorem slot_range (m : G3) (i : Nat) (hi : i < 3) : 0 ≤ (slotV (3, 3, 12) m i).1 ∧ (slotV (3, 3, 12) m i).1 < 4 := by
  rw [(slotV_in m i hi).2]
  split <;> omega
theorem disks_range (m : G3) : ∀ d ∈ disksL (3, 3, 12) m, 0 ≤ d ∧ d < ((4 : Nat) : Int) := by
  intro d hd
  simp only [disksL, List.mem_append, List.mem_map, List.mem_range] at hd
  rcases hd with ⟨i, hi, rfl⟩ | hd
  · exact slot_range m i (by omega)
  · split at hd
    · simp at hd; omega
    · simp at hd
end Go.Proofs.Ytldmeimebebllaa

namespace Go.Proofs.Ytldmeimebebllaa
open Go.Mo
set_option linter.unusedVariables false
variable {g : Fr} {cv : CV}
structure CallA where
  what : Int
  disk : Int
  n : Int
  ds : Slc
  data : List Int
  ks : Slc
  keeps : List Int
def CallA.cells (c : CallA) : List Value := [.int .i64 c.what, .int .i64 c.disk, .int .i64 c.n, .slice c.ds.base c.ds.len c.ds.cap, .slice c.ks.base c.ks.len c.ks.cap]
def CallA.t (c : CallA) : Int × Int × Int × Slc × Slc := (c.what, c.disk, c.n, c.ds, c.ks)
structure CallA.ok (c : CallA) : Prop where
  n : c.n < 9223372036854775808
  data : c.data.length ≤ 140737488355328
  keeps : c.keeps.length ≤ 140737488355328
end Go.Proofs.Ytldmeimebebllaa
namespace Go.Proofs.Ytldmeimebebllaa
open Go.Mo
set_option linter.unusedVariables false
variable {g : Fr} {cv : CV}
structure Rk.good (R : Rk) : Prop where
  ok : ∀ j, j < R.n → (R.dk j).ok R.ns
theorem dskAt_ok {ns p : Nat} {D : Dk} : Ent (dskAt ns p D) (pr (D.ok ns)) := ex_ent fun ls => ex_ent fun mb => ex_ent fun sl => ex_ent fun sc => fun o ho => by
  have := ent_left _ _ o (ent_left _ _ o (ent_left _ _ o (ent_left _ _ o ho)))
  exact this.2.2
theorem rackP_good {rb : Nat} {R : Rk} {ds : Slc} {ps : List Nat} : Ent (rackP rb R ds ps) (pr R.good) := fun o ho => ⟨fun j hj => by
  rw [rackP_focus rb R ds ps hj] at ho
  exact dskAt_ok o (ent_right _ _ o ho)⟩
theorem Rk.good.rd {R : Rk} (h : R.good) (k s : Int) : (R.rd k s).length ≤ 64 := by
  rw [Rk.rd]
  split
  · rename_i he
    have hx : ¬ R.off = true ∧ ¬ (k < 0 ∨ k ≥ R.n ∨ s < 0 ∨ s ≥ R.ns) := by
      unfold Rk.rdErr at he
      by_cases ho : R.off = true
      · rw [if_pos ho] at he; cases he
      · rw [if_neg ho] at he
        refine ⟨ho, fun hr => ?_⟩
        rw [if_pos hr] at he; cases he
    have hok := h.ok k.toNat (by omega)
    unfold Dk.sec
    cases hc : (R.dk k.toNat).cached s with
    | some b => have := (hok.2 s b hc).1; simp only; omega
    | none => have := hok.1 s.toNat (by omega); simp only; omega
  · simp
theorem Rk.good.lst {R : Rk} (h : R.good) (k s : Int) : (R.lst k s).length ≤ 64 := by
  rw [Rk.lst]
  split
  · rename_i he
    have hx : ¬ (k < 0 ∨ k ≥ R.n ∨ s < 0 ∨ s ≥ R.ns) := by
      intro hr
      rw [Rk.lErr, if_pos hr] at he; cases he
    have := (h.ok k.toNat (by omega)).1 s.toNat (by omega)
    omega
  · simp
end Go.Proofs.Ytldmeimebebllaa
namespace Go.Proofs.Ytldmeimebebllaa
open Go.Mo
set_option linter.unusedVariables false
variable {g : Fr} {cv : CV}
structure CallB where
  what : Int
  slot : Int
  n : Int
  ds : Slc
  data : List Int
  mem : G3
def CallB.cells (c : CallB) : List Value := [.int .i64 c.what, .int .i64 c.slot, .int .i64 c.n, .slice c.ds.base c.ds.len c.ds.cap, .int .i64 c.mem.1, .int .i64 c.mem.2.1, .int .i64 c.mem.2.2]
def CallB.t (c : CallB) : Int × Int × Int × Slc × Int × Int × Int := (c.what, c.slot, c.n, c.ds, c.mem.1, c.mem.2.1, c.mem.2.2)
structure CallB.ok (c : CallB) : Prop where
  n : c.n < 9223372036854775808
  data : c.data.length ≤ 140737488355328
theorem bank_Off_val (bb rb : Nat) (q m : G3) (R : Rk) (ds : Slc) (ps : List Nat) : Val g (bnk bb rb q m * rackP rb R ds ps) (bank_Bank_Off (ptr bb)) R.off := by
  unfold bank_Bank_Off
  repeat first | (with_reducible refine wps_nil ?_) | (refine wps_ld _ (by rfl) ?_)
  refine wps_tailH (fun _ => device_Rack_Off_val rb R ds ps) fun x => ?_
  refine ent_prP fun h => ?_
  refine ent_prr h ?_
  simp only [← star_assoc]
  repeat first | (with_reducible exact ent_drop) | (with_reducible refine ent_pick ?_)
theorem badL_len (q m : G3) (R : Rk) (hq : q.1 ≤ 16) : (badL q m R).length ≤ 16 := by
  have := List.length_filter_le (isBad q m R) (List.range q.1.toNat)
  unfold badL
  rw [List.length_range] at this
  omega
theorem iv_zv (l : List Nat) : iv l = zv (l.map fun i : Nat => (i : Int)) := by simp [iv, zv]
end Go.Proofs.Ytldmeimebebllaa
namespace Go.Proofs.Ytldmeimebebllaa
open Go.Mo
set_option linter.unusedVariables false
variable {g : Fr} {cv : CV}
def Byts (b : List Int) : Prop := ∀ n ∈ b, 0 ≤ n ∧ n < 256
theorem Byts.app {a b : List Int} (ha : Byts a) (hb : Byts b) : Byts (a ++ b) := fun n hn => (List.mem_append.1 hn).elim (ha n) (hb n)
theorem Byts.take {b : List Int} (h : Byts b) (k : Nat) : Byts (b.take k) := fun n hn => h n (List.mem_of_mem_take hn)
theorem Byts.drop {b : List Int} (h : Byts b) (k : Nat) : Byts (b.drop k) := fun n hn => h n (List.mem_of_mem_drop hn)
theorem Byts.get {b : List Int} (h : Byts b) {k : Nat} (hk : k < b.length) : 0 ≤ b[k] ∧ b[k] < 256 := h _ (List.getElem_mem hk)
theorem Byts.rep (k : Nat) : Byts (List.replicate k 0) := fun n hn => by
  rw [List.mem_replicate] at hn; omega
theorem strB_list (ns : List Int) : (strB ns).toList = ns.map fun n => UInt8.ofNat n.toNat := by
  have key : ∀ (ns : List Int) (r : ByteArray), (ns.foldl (fun r n => r.push (UInt8.ofNat n.toNat)) r).data.toList = r.data.toList ++ ns.map fun n => UInt8.ofNat n.toNat := by
    intro ns
    induction ns with
    | nil => intro r; simp
    | cons n ns ih =>
      intro r
      rw [List.foldl_cons, ih]
      simp [ByteArray.push]
  rw [Go.ByteArray.toList_eq, strB, key]
  simp
theorem strEq_dec {x y : List Int} (hx : Byts x) (hy : Byts y) : strEq (strB x) (strB y) = decide (x = y) := by
  have key : ∀ (x y : List Int), Byts x → Byts y → (x.map (fun n => UInt8.ofNat n.toNat) = y.map fun n => UInt8.ofNat n.toNat) → x = y := by
    intro x
    induction x with
    | nil => intro y _ _ h; cases y <;> simp at h; rfl
    | cons a x ih =>
      intro y hx hy h
      cases y with
      | nil => simp at h
      | cons b y =>
        simp only [List.map_cons, List.cons.injEq] at h
        have ha := hx a (by simp)
        have hb := hy b (by simp)
        have h1 := congrArg UInt8.toNat h.1
        simp only [UInt8.toNat_ofNat'] at h1
        rw [Nat.mod_eq_of_lt (by omega), Nat.mod_eq_of_lt (by omega)] at h1
        rw [ih y (fun n hn => hx n (by simp [hn])) (fun n hn => hy n (by simp [hn])) h.2]
        congr 1
        omega
  unfold strEq
  rw [strB_list, strB_list]
  by_cases h : x = y
  · simp [h]
  · rw [decide_eq_false h]
    exact beq_eq_false_iff_ne.2 fun e => h (key x y hx hy e)
theorem bytes_Equal_val {H : HP} {s t : Slc} {x y : List Int} (hx : Ent H (byt s x)) (hy : Ent H (byt t y)) (bx : Byts x) (bq : Byts y) : Val g H (bytes_Equal s t) (decide (x = y)) := by
  unfold bytes_Equal
  refine wps_bstr hx ?_
  refine wps_bstr hy ?_
  rw [strEq_dec bx bq]
  exact wps_pure (ent_pr rfl)
theorem byt_take {s : Slc} {b : List Int} {h : Nat} (hh : h ≤ s.len) : Ent (byt s b) (byt (subS 1 s 0 h) (b.take h)) := Ent.trans (rsl_sub (Nat.zero_le _) hh) (Ent.of_eq (by simp [byt, bv, List.map_take]))
theorem byt_drop {s : Slc} {b : List Int} {l : Nat} (hl : b.length = s.len) (hh : l ≤ s.len) : Ent (byt s b) (byt (subS 1 s l s.len) (b.drop l)) := Ent.trans (rsl_sub hh (Nat.le_refl _)) (Ent.of_eq (by
  have : (b.drop l).length ≤ s.len - l := by simp; omega
  simp only [byt, bv, Nat.mul_one]
  rw [← List.map_drop, ← List.map_take, List.take_of_length_le this]))
theorem byt_sub {s : Slc} {b : List Int} {l h : Nat} (h1 : l ≤ h) (hh : h ≤ s.len) : Ent (byt s b) (byt (subS 1 s l h) ((b.drop l).take (h - l))) := Ent.trans (rsl_sub h1 hh) (Ent.of_eq (by simp [byt, bv, List.map_take, List.map_drop]))
theorem subS_len (z : Nat) (s : Slc) (l h : Nat) : (subS z s l h).len = h - l := rfl
theorem bytes_HasPrefix_val {H : HP} {s t : Slc} {x y : List Int} (hx : Ent H (byt s x)) (hy : Ent H (byt t y)) (bx : Byts x) (bq : Byts y) : Val g H (bytes_HasPrefix s t) (decide (y.length ≤ x.length ∧ x.take y.length = y)) := by
  unfold bytes_HasPrefix
  refine wps_fact (len_of hx) fun hlx => ?_
  refine wps_fact (len_of hy) fun hly => ?_
  refine wps_fact (cap_of hx) fun hcx => ?_
  refine wps_val ?_ (wps_pure (ent_pr rfl))
  refine wps_ite (fun h => ?_) (fun h => ?_)
  · have h' : y.length ≤ x.length := by simp only [decide_eq_true_eq] at h; omega
    refine wps_slice 0 t.len rfl rfl (Nat.zero_le _) (by omega) ?_
    refine wps_val (bytes_Equal_val (x := x.take t.len) (y := y) (Ent.trans hx (byt_take (by omega))) hy (bx.take _) bq) ?_
    refine wps_pure (ent_prr ?_ (Ent.refl _))
    rw [← hly]
    simp [h']
  · have h' : ¬ y.length ≤ x.length := by simp only [decide_eq_true_eq] at h; omega
    exact wps_pure (ent_prr (by simp [h']) (Ent.refl _))
theorem byt_base {s : Slc} {b : List Int} (h : s.base = none) : Ent (byt s b) (pr (b = [] ∧ s.len = 0)) := fun o ho => by
  rcases ho with ho | ⟨ad, all, ho⟩
  · exact ⟨by simpa [bv] using ho.2, ho.1⟩
  · have := (ent_left _ _ o ho).1
    rw [h] at this; cases this
theorem bytes_Clone_spec {H : HP} {s : Slc} {b : List Int} (hx : Ent H (byt s b)) (hb : b.length ≤ 1099511627776) : wps g H (bytes_Clone s) (fun t => H * own 1 t (bv b)) := by
  unfold bytes_Clone
  refine wps_fact (len_of hx) fun hl => ?_
  refine wps_ite (fun h => ?_) (fun h => ?_)
  · have hn : s.base = none := by simpa using h
    refine wps_fact (Ent.trans hx (byt_base hn)) fun ⟨h1, _⟩ => ?_
    subst h1
    refine wps_pure (ent_own0 (Ent.refl _))
  · refine wps_alloc fun c => ?_
    refine wps_swap (A := pc c []) (B := own 1 ⟨some ⟨c, 0, none⟩, 0, 0⟩ []) (pc_own (n := 0) (z := 1) rfl) ?_
    refine wps_app 1 (bv b) rfl (by decide) (Ent.trans (ent_left _ _) hx) (by simp [bv, Value.oneCell']) (by (try dsimp only); omega) fun s' hs' => wps_pure ?_
    rw [List.nil_append]
    repeat with_reducible exact ent_drop
def zx : List Int → List Int → List Int
  | a :: xs, b :: ys => bXor .u8 a b :: zx xs ys
  | xs, [] => xs
  | [], _ => []
theorem zx_nil (a : List Int) : zx a [] = a := by cases a <;> rfl
theorem nil_zx (b : List Int) : zx [] b = [] := by cases b <;> rfl
theorem zx_len : ∀ (a b : List Int), (zx a b).length = a.length
  | [], b => by rw [nil_zx]
  | a :: xs, [] => rfl
  | a :: xs, b :: ys => by simp [zx, zx_len xs ys]
theorem zx_step : ∀ (a b : List Int) (i : Nat) (hi : i < b.length) (hb : i < a.length), (zx a (b.take i))[i]? = a[i]? ∧ (zx a (b.take i)).set i (bXor .u8 a[i] b[i]) = zx a (b.take (i + 1))
  | a :: xs, b :: ys, 0, _, _ => by cases xs <;> simp [zx, zx_nil, nil_zx]
  | a :: xs, b :: ys, i + 1, hi, ha => by
    have := zx_step xs ys i (by simpa using hi) (by simpa using ha)
    simp [zx, this]
  | [], _, _, _, h => by simp at h
  | _, [], _, h, _ => by simp at h
def xorB (a b : List Int) : List Int := if a.length < b.length then zx b a else zx a b
theorem zx_spec {H : HP} {s t : Slc} {a b : List Int} (hs : Ent H (byt s a)) (ht : Ent H (byt t b)) (hab : b.length ≤ a.length) (hl : a.length ≤ 1099511627776) (K : Slc → M Slc)
    (hK : K = fun x16 => loopM (fun (s2 : (Int)) =>
  (if (decide (s2 < ((t.len : Nat) : Int))) = true then
    bindM (idxM t s2 1) fun x22 =>
      bindM (ld (Value.int .u8) x22) fun x23 =>
      bindM (idxM x16 s2 1) fun x26 =>
      bindM (ld (Value.int .u8) x26) fun x27 =>
      bindM (idxM x16 s2 1) fun x30 =>
      bindM (st x30 (.int .u8 (bXor .u8 x27 x23))) fun _ =>
      pureM (.inl (w64 (s2 + 1)))
    else
    mapR (pureM x16))) 0) : wps g H (bindM (bytes_Clone s) K) (fun u => H * own 1 u (bv (zx a b))) := by
  subst hK
  refine wps_fact (len_of hs) fun hls => ?_
  refine wps_fact (len_of ht) fun hlt => ?_
  refine wps_bind1 (bytes_Clone_spec hs hl) fun u => ?_
  refine wps_fact (Ent.trans (ent_pick1 (A := own 1 u (bv a))) (own_len _ _ _)) fun ⟨hlu, _⟩ => ?_
  have hlu' : a.length = u.len := by simpa [bv] using hlu
  refine wps_loop (fun st => ex fun i : Nat => pr (st = (i : Int) ∧ i ≤ b.length) * H * own 1 u (bv (zx a (b.take i)))) (fun st => (b.length - st).toNat) ?_ fun st => ?_
  · refine ent_ex 0 ?_
    rw [List.take_zero, zx_nil]
    refine ent_pick (Ent.trans (ent_pr ⟨rfl, by omega⟩) (Ent.of_eq rfl))
  · refine wps_ex fun i => ?_
    rw [star_assoc]
    refine wps_pr fun ⟨hi, hn⟩ => ?_
    refine wps_ite (fun hc => ?_) (fun hc => ?_)
    · have hlt' : i < b.length := by simp only [decide_eq_true_eq] at hc; omega
      obtain ⟨z1, z2⟩ := zx_step a b i hlt' (by omega)
      refine wps_rd i b[i] (Ent.trans (ent_left _ _) ht) hi (by simp [bv, List.getElem?_eq_getElem hlt']) ?_
      refine wps_rdS i a[i] hi (by rw [bv, List.getElem?_map, z1, List.getElem?_eq_getElem (by omega)]; rfl) ?_
      refine wps_wrS i hi (by omega) (wps_pure ?_)
      refine ent_prr (by rw [range_add1 hi (by omega)]; omega) (ent_ex (i + 1) ?_)
      refine ent_pickS ?_ (Ent.trans (ent_pr ⟨range_add1 hi (by omega), by omega⟩) (Ent.of_eq rfl))
      rw [← z2]; simp [bv, List.map_set]
    · have hie : i = b.length := by simp only [decide_eq_true_eq] at hc; omega
      rw [hie, List.take_length]
      exact wps_mapR (wps_pure (Ent.refl _))
theorem bits_Xor_spec {H : HP} {s t : Slc} {a b : List Int} (hs : Ent H (byt s a)) (ht : Ent H (byt t b)) (ha : a.length ≤ 1099511627776) (hb : b.length ≤ 1099511627776) : wps g H (bits_Xor s t) (fun u => H * own 1 u (bv (xorB a b))) := by
  unfold bits_Xor
  refine wps_fact (len_of hs) fun hls => ?_
  refine wps_fact (len_of ht) fun hlt => ?_
  by_cases h : a.length < b.length
  · refine wps_bindV (u := (t, s)) (wps_ite (fun _ => wps_pure (ent_prr rfl (Ent.refl _))) (fun h' => absurd (by simp; omega) h')) ?_
    rw [xorB, if_pos h]
    exact zx_spec ht hs (by omega) hb _ rfl
  · refine wps_bindV (u := (s, t)) (wps_ite (fun h' => absurd h' (by simp; omega)) (fun _ => wps_pure (ent_prr rfl (Ent.refl _)))) ?_
    rw [xorB, if_neg h]
    exact zx_spec hs ht (by omega) ha _ rfl
end Go.Proofs.Ytldmeimebebllaa
namespace Go.Proofs.Ytldmeimebebllaa
open Go.Mo
set_option linter.unusedVariables false
variable {g : Fr} {cv : CV}
def dg (n : Int) (j : Nat) : Int := n / (256 ^ j : Nat) % 256
theorem dg_rng (n : Int) (j : Nat) : 0 ≤ dg n j ∧ dg n j < 256 := by unfold dg; omega
theorem dg_eq {n : Int} (hn : 0 ≤ n) {j : Nat} (hj : j < 4) : IntKind.wrap .u8 (bShr .i64 n (w64 (8 * (j : Int)))) = dg n j := by
  have hw : w64 (8 * (j : Int)) = 8 * (j : Int) := w64_id (by omega) (by omega)
  rw [hw]
  have : ∀ k : Nat, k < 64 → n.fdiv (2 ^ k) = n / (2 ^ k) := fun k _ => by
    rw [Int.fdiv_eq_ediv_of_nonneg _ (Int.pow_nonneg (by decide))]
  have hmin : min (8 * (j : Int)).toNat IntKind.i64.bits = 8 * j := by
    have : IntKind.i64.bits = 64 := rfl
    rw [this]; omega
  unfold bShr dg
  rw [hmin, this _ (by omega)]
  have h2 : ((2 : Int) ^ (8 * j)) = ((256 ^ j : Nat) : Int) := by
    rw [Int.pow_mul]; simp
  rw [h2]
  simp [IntKind.wrap, IntKind.bits, IntKind.signed]
def putL (w : Nat) (n : Int) : List Int := (List.range w).map (dg n)
theorem putL_len (w : Nat) (n : Int) : (putL w n).length = w := by simp [putL]
theorem putL_byts (w : Nat) (n : Int) : Byts (putL w n) := fun x hx => by
  simp only [putL, List.mem_map] at hx
  obtain ⟨j, _, rfl⟩ := hx
  exact dg_rng n j
def fitsN (w : Nat) (n : Int) : Prop := 0 ≤ n ∧ n < (256 ^ w : Nat)
instance (w : Nat) (n : Int) : Decidable (fitsN w n) := by unfold fitsN; infer_instance
def putB (w : Nat) (n : Int) : List Int := if fitsN w n then putL w n else []
theorem shr_pos {n : Int} (hn : 0 ≤ n) {w : Nat} (hw : w ≤ 4) : decide (bShr .i64 n (w64 (8 * (w : Int))) > 0) = !decide (n < (256 ^ w : Nat)) := by
  have hw2 : w64 (8 * (w : Int)) = 8 * (w : Int) := w64_id (by omega) (by omega)
  rw [hw2]
  have hmin : min (8 * (w : Int)).toNat IntKind.i64.bits = 8 * w := by
    have : IntKind.i64.bits = 64 := rfl
    rw [this]; omega
  unfold bShr
  rw [hmin, Int.fdiv_eq_ediv_of_nonneg _ (Int.pow_nonneg (by decide))]
  have h2 : ((2 : Int) ^ (8 * w)) = ((256 ^ w : Nat) : Int) := by
    rw [Int.pow_mul]; simp
  rw [h2]
  have hp : (0 : Int) < ((256 ^ w : Nat) : Int) := by exact_mod_cast Nat.pow_pos (by decide)
  generalize ((256 ^ w : Nat) : Int) = M at *
  by_cases h : n < M
  · rw [decide_eq_true h, Int.ediv_eq_zero_of_lt hn h]; rfl
  · have : 1 ≤ n / M := Int.le_ediv_of_mul_le hp (by omega)
    have h3 : n / M > 0 := by omega
    simp [h, h3]
theorem bv_map_set {w i : Nat} (f f' : Nat → Int) (hi : i < w) (h : ∀ j, j ≠ i → f' j = f j) : (bv ((List.range w).map f)).set i (.int .u8 (f' i)) = bv ((List.range w).map f') := by
  apply List.ext_getElem?
  intro j
  simp only [bv, List.getElem?_set, List.getElem?_map, List.length_map, List.length_range]
  by_cases hj : i = j
  · subst hj; simp [hi]
  · rw [if_neg hj]
    by_cases hjw : j < w
    · rw [List.getElem?_range hjw]; simp [h j (fun e => hj e.symm)]
    · simp [List.getElem?_eq_none, Nat.le_of_not_lt hjw]
theorem zs_u8 (w : Nat) : zs [.int .u8 0] w = bv ((List.range w).map fun _ => 0) := by
  simp [zs, bv, Nat.mod_one]
theorem bits_Put_spec {H : HP} (w : Nat) (n : Int) (h1 : 1 ≤ w) (h4 : w ≤ 4) : wps g H (bits_Put w n) (fun s => H * own 1 s (bv (putB w n))) := by
  unfold bits_Put
  refine wps_val (v := false) (wps_ite (fun h => absurd h (by simp; omega)) (fun _ => wps_pure (ent_prr (by simp; omega) (Ent.refl _)))) ?_
  by_cases hn : 0 ≤ n
  rotate_left
  · have hf : ¬ fitsN w n := fun h => hn h.1
    rw [putB, if_neg hf]
    refine wps_val (v := true) (wps_ite (fun h => absurd h (by decide)) (fun _ => wps_pure (ent_prr (by simp; omega) (Ent.refl _)))) ?_
    refine wps_val (v := true) (wps_ite (fun _ => wps_pure (ent_val rfl)) (fun h => absurd rfl h)) ?_
    exact wps_ite (fun _ => wps_pure (ent_own0 (Ent.refl _))) (fun h => absurd rfl h)
  refine wps_val (v := false) (wps_ite (fun h => absurd h (by decide)) (fun _ => wps_pure (ent_prr (by simp; omega) (Ent.refl _)))) ?_
  refine wps_val (v := !decide (n < (256 ^ w : Nat))) (wps_ite (fun h => absurd h (by decide)) (fun _ => wps_assert (by rw [w64_id] <;> omega) (wps_pure (ent_prr (shr_pos hn h4) (Ent.refl _))))) ?_
  by_cases hm : n < (256 ^ w : Nat)
  rotate_left
  · have hf : ¬ fitsN w n := fun h => hm h.2
    rw [putB, if_neg hf, decide_eq_false hm]
    exact wps_ite (fun _ => wps_pure (ent_own0 (Ent.refl _))) (fun h => absurd rfl h)
  rw [show putB w n = putL w n from if_pos ⟨hn, hm⟩, decide_eq_true hm]
  refine wps_ite (fun h => absurd h (by decide)) (fun _ => ?_)
  refine wps_make w rfl (by omega) fun b => ?_
  refine wps_loop (fun st => ex fun i : Nat => pr (st = (i : Int) ∧ i ≤ w) * H * pc b (bv ((List.range w).map fun j => if j < i then dg n j else 0))) (fun st => (w - st).toNat) ?_ fun st => ?_
  · refine ent_ex 0 (ent_pickC ?_ (Ent.trans (ent_pr ⟨rfl, by omega⟩) (Ent.of_eq rfl)))
    rw [zs_u8]; simp
  · refine wps_ex fun i => ?_
    rw [star_assoc]
    refine wps_pr fun ⟨hi, hn2⟩ => ?_
    refine wps_ite (fun hc => ?_) (fun hc => ?_)
    · have hlt : i < w := by simp only [decide_eq_true_eq] at hc; omega
      refine wps_assert (by rw [w64_id] <;> omega) ?_
      refine wps_idx i rfl hi hlt ?_
      refine wps_st (by simp [bv]; omega) (wps_pure ?_)
      rw [hi, dg_eq hn (by omega)]
      refine ent_prr (by rw [range_add1 rfl (by omega)]; omega) (ent_ex (i + 1) (ent_pickC ?_ (Ent.trans (ent_pr ⟨range_add1 rfl (by omega), by omega⟩) (Ent.of_eq rfl))))
      rw [Nat.zero_add, Nat.mul_one]
      have := bv_map_set (w := w) (i := i) (fun j => if j < i then dg n j else 0) (fun j => if j < i + 1 then dg n j else 0) hlt (fun j hj => by
        have : j < i + 1 ↔ j < i := by omega
        simp [this])
      simpa using this
    · have hie : i = w := by simp only [decide_eq_true_eq] at hc; omega
      subst hie
      refine wps_mapR (wps_pure ?_)
      refine Ent.starr ?_
      have : (bv ((List.range i).map fun j => if j < i then dg n j else 0)) = bv (putL i n) := by
        unfold putL
        congr 1
        refine List.map_congr_left fun j hj => ?_
        rw [if_pos (by simpa using hj)]
      rw [this]
      exact pc_own (by simp [bv, putL])
end Go.Proofs.Ytldmeimebebllaa
namespace Go.Proofs.Ytldmeimebebllaa
open Go.Mo
set_option linter.unusedVariables false
variable {g : Fr} {cv : CV}
theorem bl (b : List Int) : (bv b).length = b.length := by simp [bv]
theorem ovw_at {cs new : List Value} {l : Nat} {p : List Value} (hp : cs.take l = p) (hl : l + new.length ≤ cs.length) : (ovw cs l new).take (l + new.length) = p ++ new := by
  subst hp
  rw [ovw, List.take_append_of_le_length (by simp; omega), List.take_of_length_le (by simp; omega)]
def padL (b : List Int) (n : Nat) : List Int := b ++ List.replicate (n - b.length) 0
theorem bits_Pad_spec {H : HP} {s : Slc} {b : List Int} (n : Nat) (hs : Ent H (byt s b)) (hn : n ≤ 65536) :
    wps g H (bits_Pad s n) (fun x => if b.length ≤ n then pr (x.2 = true) * H * own 1 x.1 (bv (padL b n)) else pr (x.2 = false) * H) := by
  unfold bits_Pad
  refine wps_fact (len_of hs) fun hl => ?_
  by_cases h : b.length ≤ n
  · simp only [h, if_true]
    refine wps_val (v := false) (wps_ite (fun h => absurd h (by simp; omega)) (fun _ => wps_pure (ent_prr (by simp; omega) (Ent.refl _)))) ?_
    refine wps_ite (fun h => absurd h (by decide)) (fun _ => ?_)
    refine wps_make n rfl (by omega) fun c => ?_
    refine wps_copyP (off := 0) (Ent.trans (ent_left _ _) hs) (by simp [bv, Value.oneCell']) (by simp [zs]) ?_
    refine wps_pure ?_
    rw [star_assoc]
    refine ent_prr rfl ?_
    refine Ent.starr ?_
    have hm : (bv b).take (min s.len n * 1) = bv b := List.take_of_length_le (by simp [bv]; omega)
    have e : ovw (zs [.int .u8 0] n) 0 ((bv b).take (min s.len n * 1)) = bv (padL b n) := by
      rw [hm, ovw, zs_u8]
      simp [padL, bv]
      apply List.ext_getElem?
      intro j
      simp [List.getElem?_map, List.getElem?_drop, List.getElem?_replicate]
      by_cases hj : j < n - b.length
      · rw [List.getElem?_range (by omega)]; simp [hj]
      · rw [List.getElem?_eq_none (by simp; omega)]; simp [hj]
    rw [e]
    exact pc_own (by simp [bv, padL]; omega)
  · simp only [h, if_false]
    refine wps_val (v := true) ?_ ?_
    · by_cases h2 : (n : Int) > 65536
      · exact absurd h2 (by omega)
      · exact wps_ite (fun h => absurd h (by simp; omega)) (fun _ => wps_pure (ent_prr (by simp; omega) (Ent.refl _)))
    · exact wps_ite (fun _ => wps_pure (ent_pr rfl)) (fun h => absurd rfl h)
theorem rsl_front {b n : Nat} {cs p : List Value} (hl : p.length = n) (hp : cs.take n = p) : Ent (pc b cs) (rsl 1 ⟨some ⟨b, 0, none⟩, n, n⟩ p) := by
  refine Ent.trans (pc_ro _ _) (ent_orr (ent_ex ⟨b, 0, none⟩ (ent_ex cs (ent_prr ⟨rfl, by simpa using hl, Nat.le_refl _, ?_⟩ (Ent.refl _)))))
  simpa using hp
theorem bytes_Join_spec {H : HP} {s : Slc} {sl : List Slc} {ls : List (List Int)} (hs : Ent H (rsl 1 s (sl.map vS))) (hq : Ent H (seqp sl fun i => ls.getD i [])) (hl : sl.length = ls.length) (h2 : 2 ≤ ls.length) (hN : ls.flatten.length ≤ 1099511627776) (hk : ls.length ≤ 1099511627776) :
    wps g H (bytes_Join s ⟨none, 0, 0⟩) (fun t => H * ex fun b => ex fun cs => pr (t = ⟨some ⟨b, 0, none⟩, ls.flatten.length, ls.flatten.length⟩ ∧ cs.take ls.flatten.length = bv ls.flatten) * pc b cs) := by
  unfold bytes_Join
  refine wps_fact (Ent.trans hs (rsl_len _ _ _)) fun hsl => ?_
  have hsl' : sl.length = s.len := by simpa using hsl
  have hpart : ∀ i (h : i < sl.length), Ent H (byt sl[i] (ls[i]'(by omega))) := fun i h o ho => by
    have := hq o ho i sl[i] (List.getElem?_eq_getElem h)
    simpa [List.getD_eq_getElem?_getD, List.getElem?_eq_getElem (show i < ls.length by omega)] using this
  refine wps_fact (cap_of hs) fun hcap => ?_
  have hstep : ∀ i (h : i < ls.length), (ls.take (i + 1)).flatten = (ls.take i).flatten ++ ls[i] := fun i h => by
    rw [List.take_add_one, List.getElem?_eq_getElem h, List.flatten_append]; simp
  have hle : ∀ i, (ls.take i).flatten.length ≤ ls.flatten.length := fun i => by
    have : ls.flatten = (ls.take i).flatten ++ (ls.drop i).flatten := by rw [← List.flatten_append, List.take_append_drop]
    rw [this, List.length_append]; omega
  refine wps_ite (fun h => absurd h (by simp; omega)) (fun _ => ?_)
  refine wps_ite (fun h => absurd h (by simp; omega)) (fun _ => ?_)
  refine wps_bindV (u := 0) (wps_ite (fun h => absurd h (by decide)) (fun _ => wps_pure (ent_prr rfl (Ent.refl _)))) ?_
  refine wps_loop (fun st => ex fun i : Nat => pr (st.2 = (i : Int) ∧ i ≤ ls.length ∧ st.1 = (((ls.take i).flatten.length : Nat) : Int)) * H) (fun st => (ls.length - st.2).toNat) (ent_ex 0 (ent_prr ⟨rfl, by omega, rfl⟩ (Ent.refl _))) fun st => ?_
  refine wps_ex fun i => wps_pr fun ⟨hi, hin, hsum⟩ => ?_
  have hlei := hle i
  refine wps_ite (fun hc => ?_) (fun hc => ?_)
  · have hlt : i < sl.length := by simp only [decide_eq_true_eq] at hc; omega
    have hsi := hstep i (by omega)
    have hli := hle (i + 1)
    have hlp : (ls.take (i + 1)).flatten.length = (ls.take i).flatten.length + (ls[i]'(by omega)).length := by rw [hsi, List.length_append]
    refine wps_fact (len_of (hpart i hlt)) fun hpl => ?_
    refine wps_rd i sl[i] hs hi (by simp [List.getElem?_eq_getElem hlt]) ?_
    refine wps_bindV (u := ()) (wps_ite (fun h => by simp only [decide_eq_true_eq] at h; rw [hsum, w64_id] at h <;> omega) (fun _ => wps_pure (ent_prr rfl (Ent.refl _)))) ?_
    refine wps_pure (ent_prr (by rw [range_add1 hi (by omega)]; (try dsimp only); omega) (ent_ex (i + 1) (ent_prr ⟨range_add1 hi (by omega), by omega, ?_⟩ (Ent.refl _))))
    rw [hsum, hlp, ← hpl, w64_id] <;> omega
  have hie : i = ls.length := by simp only [decide_eq_true_eq] at hc; omega
  rw [hie, List.take_length] at hsum
  generalize hNN : ls.flatten.length = N at *
  refine wps_mapR ?_
  refine wps_noZero N hsum (by omega) fun b cs0 hcs => ?_
  refine wps_slice3 N N hsum hsum (Nat.le_refl _) hcs ?_
  have h0 : 0 < sl.length := by omega
  have hls0 : 0 < ls.length := by omega
  refine wps_rd 0 sl[0] (Ent.trans (ent_left _ _) hs) rfl (by simp [List.getElem?_eq_getElem h0]) ?_
  have hl0 := hle 1
  have hs0 : (ls.take 1).flatten = ls[0]'(by omega) := by have := hstep 0 (by omega); simpa using this
  rw [hs0] at hl0
  refine wps_fact (Ent.trans (ent_left _ _) (len_of (hpart 0 h0))) fun hp0 => ?_
  refine wps_copyP (off := 0) (Ent.trans (ent_left _ _) (hpart 0 h0)) (by simp [bv, Value.oneCell']) (by omega) ?_
  have hm0 : (bv (ls[0]'(by omega))).take (min sl[0].len N * 1) = bv (ls[0]'(by omega)) := List.take_of_length_le (by simp [bv]; omega)
  rw [hm0]
  refine wps_slice 1 s.len rfl rfl (by omega) (by omega) ?_
  have hsub := rsl_sub (z := 1) (s := s) (cs := sl.map vS) (l := 1) (h := s.len) (by omega) (Nat.le_refl _)
  refine wps_loop (fun st => ex fun i : Nat => ex fun cs => pr (st.2 = (i : Int) ∧ i + 1 ≤ ls.length ∧ st.1 = (((ls.take (i + 1)).flatten.length : Nat) : Int) ∧ N ≤ cs.length ∧ cs.take (ls.take (i + 1)).flatten.length = bv (ls.take (i + 1)).flatten) * H * pc b cs) (fun st => (ls.length - st.2).toNat) ?_ fun st => ?_
  · refine ent_ex 0 (ent_ex (ovw cs0 0 (bv (ls[0]'hls0))) (ent_pick ?_))
    refine Ent.trans (ent_pr ⟨rfl, by omega, ?_, ?_, ?_⟩) (Ent.of_eq rfl)
    · rw [Nat.zero_add, hs0]; (try dsimp only); omega
    · rw [ovw_len (by simp [bv]; omega)]; exact hcs
    · rw [Nat.zero_add, hs0]
      have := ovw_at (cs := cs0) (new := bv (ls[0]'(by omega))) (l := 0) (p := []) (by simp) (by simp [bv]; omega)
      simpa [bv] using this
  refine wps_ex fun i => wps_ex fun cs => ?_
  rw [star_assoc]
  refine wps_pr fun ⟨hi, hin, hbp, hcl, hct⟩ => ?_
  have hlei := hle (i + 1)
  refine wps_ite (fun hc => ?_) (fun hc => ?_)
  · have hc1 := of_decide_eq_true hc
    rw [subS_len] at hc1
    have hlt : i + 1 < sl.length := by omega
    have hsi := hstep (i + 1) (by omega)
    have hli := hle (i + 1 + 1)
    have hlp : (ls.take (i + 1 + 1)).flatten.length = (ls.take (i + 1)).flatten.length + (ls[i + 1]'(by omega)).length := by rw [hsi, List.length_append]
    refine wps_fact (Ent.trans (ent_left _ _) (len_of (hpart (i + 1) hlt))) fun hpl => ?_
    refine wps_rd i sl[i + 1] (Ent.trans (ent_left _ _) (Ent.trans hs hsub)) hi ?_ ?_
    · rw [List.getElem?_take, if_pos (by omega), List.getElem?_drop, List.getElem?_map, show 1 * 1 + i = i + 1 by omega, List.getElem?_eq_getElem hlt]; rfl
    refine wps_slice (ls.take (i + 1)).flatten.length N hbp rfl hlei (Nat.le_refl _) ?_
    refine wps_copyT (new := []) (fun o ho => .inl ⟨rfl, rfl⟩) (by simp) (by omega) hlei (Nat.le_refl _) ?_
    simp only [List.take_nil, ovw_nil, Nat.zero_min]
    have hw : w64 (st.1 + ((0 : Nat) : Int)) = st.1 := by rw [w64_id] <;> omega
    rw [hw]
    refine wps_slice (ls.take (i + 1)).flatten.length N hbp rfl hlei (Nat.le_refl _) ?_
    refine wps_copyT (Ent.trans (ent_left _ _) (hpart (i + 1) hlt)) (by simp [bv, Value.oneCell']) (by omega) hlei (Nat.le_refl _) ?_
    have hm : min sl[i + 1].len (N - (ls.take (i + 1)).flatten.length) = (ls[i + 1]'(by omega)).length := by omega
    have hm2 : (bv (ls[i + 1]'(by omega))).take (ls[i + 1]'(by omega)).length = bv (ls[i + 1]'(by omega)) := List.take_of_length_le (by simp [bv])
    rw [hm, hm2]
    have hls1 : i + 1 < ls.length := by omega
    refine wps_pure (ent_prr (by rw [range_add1 hi (by omega)]; (try dsimp only); omega) (ent_ex (i + 1) (ent_ex (ovw cs (ls.take (i + 1)).flatten.length (bv (ls[i + 1]'hls1))) (ent_pick ?_))))
    refine Ent.trans (ent_pr ⟨range_add1 hi (by omega), by omega, ?_, ?_, ?_⟩) (Ent.of_eq rfl)
    · rw [hlp, hbp, w64_id] <;> omega
    · rw [ovw_len (by rw [bl]; omega)]; exact hcl
    · have := ovw_at hct (new := bv (ls[i + 1]'(by omega))) (by rw [bl]; omega)
      rw [bl] at this
      rw [hlp, hsi, this]
      simp [bv]
  · have hc1 : ¬ (st.2 < ((subS 1 s 1 s.len).len : Nat)) := fun h => hc (decide_eq_true h)
    rw [subS_len] at hc1
    have hie2 : i + 1 = ls.length := by omega
    rw [hie2, List.take_length] at hct
    refine wps_mapR (wps_pure ?_)
    refine Ent.starr (ent_ex b (ent_ex cs (ent_prr ⟨rfl, ?_⟩ (Ent.refl _))))
    rw [← hNN]; exact hct
end Go.Proofs.Ytldmeimebebllaa
namespace Go.Proofs.Ytldmeimebebllaa
open Go.Mo
set_option linter.unusedVariables false
variable {g : Fr} {cv : CV}
def encL (seq owner index : Int) (data : List Int) : List Int := putL 4 seq ++ putL 2 owner ++ putL 2 index ++ padL data 56
def encOk (seq owner index : Int) (data : List Int) : Prop := fitsN 4 seq ∧ fitsN 2 owner ∧ fitsN 2 index ∧ data.length ≤ 56
instance (seq owner index : Int) (data : List Int) : Decidable (encOk seq owner index data) := by unfold encOk; infer_instance
theorem encL_len {seq owner index : Int} {data : List Int} (h : data.length ≤ 56) : (encL seq owner index data).length = 64 := by
  simp [encL, putL_len, padL]; omega
theorem padL_byts {b : List Int} (h : Byts b) (n : Nat) : Byts (padL b n) := h.app (Byts.rep _)
theorem encL_byts {seq owner index : Int} {data : List Int} (h : Byts data) : Byts (encL seq owner index data) := (((putL_byts 4 seq).app (putL_byts 2 owner)).app (putL_byts 2 index)).app (padL_byts h 56)
theorem putB_len (w : Nat) (n : Int) : (putB w n).length = if fitsN w n then w else 0 := by
  unfold putB; split <;> simp [putL_len]
theorem sector_Encode_spec {H : HP} {s : Slc} {data : List Int} (seq owner index : Int) (hs : Ent H (byt s data)) :
    wps g H (sector_Encode (seq, owner, index) s) (fun x => if encOk seq owner index data then pr (x.2 = true) * H * own 1 x.1 (bv (encL seq owner index data)) else pr (x.2 = false) * H) := by
  unfold sector_Encode
  refine wps_fact (len_of hs) fun hl => ?_
  refine wps_alloc fun c => ?_
  refine wps_region (pc c [.int .i64 seq, .int .i64 owner, .int .i64 index]) ent_pick1 ?_
  refine wps_ldI seq (by rfl) ?_
  refine wps_ldI owner (by rfl) ?_
  refine wps_ldI index (by rfl) ?_
  refine wps_step1 (bits_Put_spec 4 seq (by decide) (by decide)) fun a1 => ?_
  refine wps_step1 (bits_Put_spec 2 owner (by decide) (by decide)) fun a2 => ?_
  refine wps_step1 (bits_Put_spec 2 index (by decide) (by decide)) fun a3 => ?_
  refine wps_stepAlloc fun d => ?_
  have hj := bytes_Join_spec (g := g) (H := H * pc c [.int .i64 seq, .int .i64 owner, .int .i64 index] * own 1 a1 (bv (putB 4 seq)) * own 1 a2 (bv (putB 2 owner)) * own 1 a3 (bv (putB 2 index)) * pc d [vS a1, vS a2, vS a3]) (s := ⟨some ⟨d, 0, none⟩, 3, 3⟩) (sl := [a1, a2, a3]) (ls := [putB 4 seq, putB 2 owner, putB 2 index])
    (rsl_pc rfl) (fun o ho k t hk => by
      match k with
      | 0 => obtain rfl : a1 = t := by simpa using hk
             exact own_rsl _ _ _ o (ent_pick1 (A := own 1 a1 (bv (putB 4 seq))) o ho)
      | 1 => obtain rfl : a2 = t := by simpa using hk
             exact own_rsl _ _ _ o (ent_pick1 (A := own 1 a2 (bv (putB 2 owner))) o ho)
      | 2 => obtain rfl : a3 = t := by simpa using hk
             exact own_rsl _ _ _ o (ent_pick1 (A := own 1 a3 (bv (putB 2 index))) o ho)
      | k + 3 => simp at hk) rfl (by simp) (by simp [putB_len]; split <;> split <;> split <;> omega) (by simp)
  refine wps_step1 hj fun hd => ?_
  refine wps_exr fun b => wps_exr fun cs => ?_
  refine wps_prP fun ⟨hh, hct⟩ => ?_
  have hfl : [putB 4 seq, putB 2 owner, putB 2 index].flatten = putB 4 seq ++ putB 2 owner ++ putB 2 index := by simp
  rw [hfl] at hh hct
  generalize hP : putB 4 seq ++ putB 2 owner ++ putB 2 index = P at *
  have hPl : P.length = (if fitsN 4 seq then 4 else 0) + (if fitsN 2 owner then 2 else 0) + (if fitsN 2 index then 2 else 0) := by
    rw [← hP]; simp [putB_len]; omega
  subst hh
  refine wps_pre (H' := H * pc b cs) ?_ ?_
  · repeat first | (with_reducible exact ent_drop) | (with_reducible refine ent_pick ?_)
  refine wps_bind (bits_Pad_spec 56 (Ent.trans (ent_left _ _) hs) (by decide)) fun x => ?_
  by_cases hd : data.length ≤ 56
  rotate_left
  · have hno : ¬ encOk seq owner index data := fun h => hd h.2.2.2
    simp only [hd, hno, if_false]
    refine wps_pr fun hx => ?_
    refine wps_val (v := true) (wps_ite (fun _ => wps_pure (ent_val rfl)) (fun h => absurd (by simp [hx]) h)) ?_
    exact wps_ite (fun _ => wps_pure (ent_prr rfl (ent_left _ _))) (fun h => absurd rfl h)
  simp only [hd, if_true]
  rw [star_assoc]
  refine wps_pr fun hx => ?_
  by_cases h8 : P.length = 8
  rotate_left
  · have hno : ¬ encOk seq owner index data := fun h => h8 (by rw [hPl, if_pos h.1, if_pos h.2.1, if_pos h.2.2.1])
    simp only [hno, if_false]
    refine wps_val (v := true) (wps_ite (fun _ => wps_pure (ent_val rfl)) (fun h => wps_pure (ent_prr (by simp; omega) (Ent.refl _)))) ?_
    exact wps_ite (fun _ => wps_pure (ent_prr rfl (Ent.trans (ent_left _ _) (ent_left _ _)))) (fun h => absurd rfl h)
  have hok : encOk seq owner index data := by
    rw [hPl] at h8
    refine ⟨?_, ?_, ?_, hd⟩
    · by_cases h : fitsN 4 seq
      · exact h
      · rw [if_neg h] at h8; split at h8 <;> split at h8 <;> omega
    · by_cases h : fitsN 2 owner
      · exact h
      · rw [if_neg h] at h8; split at h8 <;> split at h8 <;> omega
    · by_cases h : fitsN 2 index
      · exact h
      · rw [if_neg h] at h8; split at h8 <;> split at h8 <;> omega
  simp only [hok, if_true]
  refine wps_val (v := false) (wps_ite (fun h => absurd h (by simp [hx])) (fun h => wps_pure (ent_prr (by simp; omega) (Ent.refl _)))) ?_
  refine wps_ite (fun h => absurd h (by decide)) (fun _ => ?_)
  refine wps_fact (Ent.trans (ent_right _ _) (own_len _ _ _)) fun ⟨hxl, _⟩ => ?_
  have hxl2 : x.1.len = 56 := by rw [bl] at hxl; simp [padL] at hxl; omega
  refine wps_appendG (old := bv P) (new := bv (padL data 56)) 1 rfl (Ent.trans (ent_right _ _) (own_rsl _ _ _)) (Ent.trans (ent_left _ _) (Ent.trans (ent_right _ _) (rsl_front (by rw [bl]) hct))) (by (try dsimp only); omega) (by (try dsimp only); omega) (by (try dsimp only); omega) fun s' hs' => wps_pure ?_
  have he : bv P ++ bv (padL data 56) = bv (encL seq owner index data) := by
    rw [← hP, putB, putB, putB, if_pos hok.1, if_pos hok.2.1, if_pos hok.2.2.1]
    simp [bv, encL]
  rw [he]
  refine Ent.trans (Ent.starl (Ent.trans (ent_left _ _) (ent_left _ _))) ?_
  rw [star_assoc]
  exact ent_pr rfl
def getL : List Int → Int
  | [] => 0
  | b :: l => b + 256 * getL l
theorem getL_app : ∀ (l : List Int) (c : Int), getL (l ++ [c]) = getL l + (256 ^ l.length : Nat) * c
  | [], c => by simp [getL]
  | b :: l, c => by
    simp only [List.cons_append, getL, getL_app l c, List.length_cons, Nat.pow_succ]
    rw [Int.natCast_mul]
    generalize ((256 ^ l.length : Nat) : Int) = M
    have : M * ((256 : Nat) : Int) * c = 256 * (M * c) := by rw [Int.mul_comm M, Int.mul_assoc]; rfl
    omega
theorem getL_rng : ∀ {l : List Int}, Byts l → 0 ≤ getL l ∧ getL l < (256 ^ l.length : Nat)
  | [], _ => by simp [getL]
  | b :: l, h => by
    have h1 := h b (by simp)
    have h2 := getL_rng (l := l) fun x hx => h x (by simp [hx])
    simp only [getL, List.length_cons, Nat.pow_succ]
    rw [Int.natCast_mul]
    generalize ((256 ^ l.length : Nat) : Int) = M at *
    omega
theorem or_shl {n c : Int} {i : Nat} (hi : i < 4) (h0 : 0 ≤ n ∧ n < (256 ^ i : Nat)) (hc : 0 ≤ c ∧ c < 256) : bOr .i64 n (bShl .i64 (w64 c) (w64 (8 * (i : Int)))) = n + (256 ^ i : Nat) * c := by
  rw [w64_id (n := c) (by omega) (by omega), w64_id (n := 8 * (i : Int)) (by omega) (by omega)]
  obtain ⟨a, rfl⟩ : ∃ a : Nat, n = (a : Int) := ⟨n.toNat, by omega⟩
  obtain ⟨b, rfl⟩ : ∃ b : Nat, c = (b : Int) := ⟨c.toNat, by omega⟩
  have hmin : min (8 * (i : Int)).toNat IntKind.i64.bits = 8 * i := by
    have : IntKind.i64.bits = 64 := rfl
    rw [this]; omega
  have h256 : (256 : Nat) ^ i = 2 ^ (8 * i) := by rw [Nat.pow_mul]
  have hle : (256 : Nat) ^ i ≤ 256 ^ 3 := Nat.pow_le_pow_right (by decide) (by omega)
  have hb : b * 256 ^ i ≤ 255 * 256 ^ 3 := Nat.mul_le_mul (by omega) hle
  have hsh : bShl .i64 (b : Int) (8 * (i : Int)) = ((b * 256 ^ i : Nat) : Int) := by
    unfold bShl
    rw [hmin]
    have h2 : (b : Int) * 2 ^ (8 * i) = ((b * 256 ^ i : Nat) : Int) := by rw [h256, Int.natCast_mul, Int.natCast_pow]; rfl
    rw [h2]
    exact wrap_i64 (by omega) (by omega)
  rw [hsh]
  have ha : a < 256 ^ i := by exact_mod_cast h0.2
  unfold bOr
  have e1 : (BitVec.ofInt IntKind.i64.bits (a : Int)).toNat = a := by
    show (BitVec.ofInt 64 _).toNat = _
    rw [BitVec.toNat_ofInt]; omega
  have e2 : (BitVec.ofInt IntKind.i64.bits ((b * 256 ^ i : Nat) : Int)).toNat = b * 256 ^ i := by
    show (BitVec.ofInt 64 _).toNat = _
    rw [BitVec.toNat_ofInt]; omega
  rw [BitVec.toNat_or, e1, e2]
  have e3 : a ||| b * 256 ^ i = a + 256 ^ i * b := by
    rw [Nat.or_comm, Nat.mul_comm, h256, ← Nat.two_pow_add_eq_or_of_lt (by rw [← h256]; exact ha)]; omega
  rw [e3, wrap_i64]
  · rw [Int.natCast_add, Int.natCast_mul]
  · omega
  · rw [Nat.mul_comm] at hb
    have : (256 ^ i : Nat) * b + a < 4294967296 := by omega
    omega
def getB (b : List Int) (at' w : Nat) : Int := getL ((b.drop at').take w)
theorem bits_Get_val {H : HP} {s : Slc} {b : List Int} (p w : Nat) (hs : Ent H (byt s b)) (hb : Byts b) (h1 : 1 ≤ w) (h4 : w ≤ 4) (hp : p + w ≤ b.length) (hl : b.length ≤ 1099511627776) : Val g H (bits_Get s p w) (getB b p w, true) := by
  unfold bits_Get
  refine wps_fact (len_of hs) fun hls => ?_
  refine wps_fact (cap_of hs) fun hcs => ?_
  refine wps_val (v := false) (wps_ite (fun h => absurd h (by simp; omega)) (fun _ => wps_pure (ent_prr (by simp <;> omega) (Ent.refl _)))) ?_
  refine wps_val (v := false) (wps_ite (fun h => absurd h (by decide)) (fun _ => wps_pure (ent_prr (by simp <;> omega) (Ent.refl _)))) ?_
  refine wps_val (v := false) (wps_ite (fun h => absurd h (by decide)) (fun _ => wps_pure (ent_prr (by simp <;> omega) (Ent.refl _)))) ?_
  refine wps_val (v := false) (wps_ite (fun h => absurd h (by decide)) (fun _ => wps_pure (ent_prr (decide_eq_false (by rw [w64_id] <;> omega)) (Ent.refl _)))) ?_
  refine wps_ite (fun h => absurd h (by decide)) (fun _ => ?_)
  refine wps_slice p (p + w) rfl (by rw [show ((some (w64 ((p : Int) + (w : Int)))).getD (s.len : Int)) = w64 ((p : Int) + w) from rfl, w64_id] <;> omega) (by omega) (by omega) ?_
  have hsub : Ent H (byt (subS 1 s p (p + w)) ((b.drop p).take w)) := by
    have := Ent.trans hs (byt_sub (l := p) (h := p + w) (by omega) (by omega))
    rwa [show p + w - p = w by omega] at this
  have hsl : (subS 1 s p (p + w)).len = w := by rw [subS_len]; omega
  generalize subS 1 s p (p + w) = t at *
  have hxl : ((b.drop p).take w).length = w := by simp; omega
  have hxb : Byts ((b.drop p).take w) := (hb.drop p).take w
  unfold getB
  generalize (b.drop p).take w = x at *
  refine wps_loop (fun st => ex fun i : Nat => pr (st.2 = (i : Int) ∧ i ≤ w ∧ st.1 = getL (x.take i)) * H) (fun st => (w - st.2).toNat) (ent_ex 0 (ent_prr ⟨rfl, by omega, by simp [getL]⟩ (Ent.refl _))) fun st => ?_
  refine wps_ex fun i => wps_pr fun ⟨hi, hin, hv⟩ => ?_
  refine wps_ite (fun hc => ?_) (fun hc => ?_)
  · have hc1 := of_decide_eq_true hc
    rw [hsl] at hc1
    have hlt : i < x.length := by omega
    refine wps_rd i x[i] hsub hi (by simp [bv, List.getElem?_eq_getElem hlt]) ?_
    refine wps_assert (by rw [hi, w64_id] <;> omega) ?_
    have hr := getL_rng (hxb.take i)
    rw [List.length_take, Nat.min_eq_left (by omega)] at hr
    refine wps_pure (ent_prr (by rw [range_add1 hi (by omega)]; (try dsimp only); omega) (ent_ex (i + 1) (ent_prr ⟨range_add1 hi (by omega), by omega, ?_⟩ (Ent.refl _))))
    rw [hv, hi, or_shl (by omega) hr (hxb.get hlt), List.take_add_one, List.getElem?_eq_getElem hlt]
    show _ = getL (x.take i ++ [x[i]])
    rw [getL_app, List.length_take, Nat.min_eq_left (by omega)]
  · have hie : i = w := by
      have hc1 : ¬ (st.2 < ((t.len : Nat) : Int)) := fun h => hc (decide_eq_true h)
      rw [hsl] at hc1; omega
    rw [hie, List.take_of_length_le (by omega)] at hv
    refine wps_mapR (wps_pure (ent_prr ?_ (Ent.refl _)))
    rw [hv]
end Go.Proofs.Ytldmeimebebllaa
namespace Go.Proofs.Ytldmeimebebllaa
open Go.Mo
set_option linter.unusedVariables false
variable {g : Fr} {cv : CV}
def headOf (b : List Int) : G3 := if b.length = 64 then (getB b 0 4, getB b 4 2, getB b 6 2) else (0, 0, 0)
def payOf (b : List Int) : List Int := if b.length = 64 then b.drop 8 else []
theorem sector_Decode_spec {H : HP} {s : Slc} {b : List Int} (hs : Ent H (byt s b)) (hb : Byts b) (hl : b.length ≤ 1099511627776) :
    wps g H (sector_Decode s) (fun x => pr (x.1 = headOf b ∧ x.2.2 = decide (b.length = 64)) * H * own 1 x.2.1 (bv (payOf b))) := by
  unfold sector_Decode
  refine wps_fact (len_of hs) fun hls => ?_
  refine wps_fact (cap_of hs) fun hcs => ?_
  refine wps_alloc fun c => ?_
  by_cases h : b.length = 64
  rotate_left
  · refine wps_ite (fun _ => ?_) (fun h' => absurd (by simp; omega) h')
    refine wps_stA (by simp) (by simp [Value.oneCell']) ?_
    refine wps_ldG 0 0 0 (by rfl) (wps_pure ?_)
    rw [payOf, if_neg h, headOf, if_neg h]
    refine ent_own0 ?_
    refine Ent.trans (ent_left _ _) (ent_pr ?_)
    simp [h]
  refine wps_ite (fun h' => absurd h' (by simp; omega)) (fun _ => ?_)
  refine wps_alloc fun d => ?_
  have hH : Ent (H * pc c [.int .i64 0, .int .i64 0, .int .i64 0] * pc d [.int .i64 0, .int .i64 0, .int .i64 0]) (byt s b) := Ent.trans (ent_left _ _) (Ent.trans (ent_left _ _) hs)
  refine wps_val (bits_Get_val 0 4 hH hb (by decide) (by decide) (by omega) hl) ?_
  refine wps_st (by simp) ?_
  have hH : ∀ cs, Ent (H * pc c [.int .i64 0, .int .i64 0, .int .i64 0] * pc d cs) (byt s b) := fun cs => Ent.trans (ent_left _ _) (Ent.trans (ent_left _ _) hs)
  refine wps_val (bits_Get_val 4 2 (hH _) hb (by decide) (by decide) (by omega) hl) ?_
  refine wps_st (by simp) ?_
  refine wps_val (bits_Get_val 6 2 (hH _) hb (by decide) (by decide) (by omega) hl) ?_
  refine wps_st (by simp) ?_
  refine wps_eq (H' := H * pc c [.int .i64 0, .int .i64 0, .int .i64 0] * pc d [.int .i64 (getB b 0 4), .int .i64 (getB b 4 2), .int .i64 (getB b 6 2)]) rfl ?_
  refine wps_regionH ?_
  refine wps_ldGI (getB b 0 4) (getB b 4 2) (getB b 6 2) (by rfl) ?_
  refine wps_slice 8 s.len rfl rfl (by omega) hcs ?_
  refine wps_step1 (bytes_Clone_spec (Ent.trans (hH _) (byt_drop hls (by omega))) (by simp; omega)) fun t => ?_
  refine wps_stA (by simp) (by simp [Value.oneCell']) ?_
  refine wps_ldG (getB b 0 4) (getB b 4 2) (getB b 6 2) (by rfl) (wps_pure ?_)
  rw [payOf, if_pos h, headOf, if_pos h]
  refine ent_pick ?_
  refine Ent.trans (ent_left _ _) (Ent.trans (ent_left _ _) (ent_pr ?_))
  simp [h]
def parOk (ls : List (List Int)) : Prop := ls ≠ [] ∧ ∀ b ∈ ls, b.length = 64 ∧ b.take 4 = (ls.headD []).take 4
instance (ls : List (List Int)) : Decidable (parOk ls) := by unfold parOk; infer_instance
def parSum (ls : List (List Int)) : List Int := ls.foldl (fun acc b => xorB acc (b.drop 4)) []
def parL (ls : List (List Int)) : Option (List Int) := if parOk ls then some ((ls.headD []).take 4 ++ parSum ls) else none
theorem parSum_snoc (ls : List (List Int)) (b : List Int) : parSum (ls ++ [b]) = xorB (parSum ls) (b.drop 4) := by simp [parSum]
theorem parSum_len : ∀ {ls : List (List Int)} (n : Nat), (∀ i (h : i < n), i < ls.length → (ls[i]?.getD []).length = 64) → n ≤ ls.length → (parSum (ls.take n)).length = if n = 0 then 0 else 60
  | ls, 0, _, _ => by simp [parSum]
  | ls, n + 1, h, hn => by
    have ih := parSum_len (ls := ls) n (fun i hi => h i (by omega)) (by omega)
    have hb := h n (by omega) (by omega)
    rw [List.getElem?_eq_getElem (by omega)] at hb
    simp only [Option.getD_some] at hb
    rw [List.take_add_one, List.getElem?_eq_getElem (by omega)]
    show (parSum (ls.take n ++ [ls[n]'(by omega)])).length = _
    rw [parSum_snoc, xorB]
    have hd : ((ls[n]'(by omega)).drop 4).length = 60 := by simp; omega
    rw [if_neg (show ¬ n + 1 = 0 by omega)]
    split
    · rw [zx_len, hd]
    · rename_i hx
      rw [zx_len, ih]
      rw [ih, hd] at hx
      split at hx
      · omega
      · rename_i h0; rw [if_neg h0]
theorem sector_Parity_spec {H : HP} {s : Slc} {sl : List Slc} {ls : List (List Int)} (hs : Ent H (rsl 1 s (sl.map vS))) (hq : Ent H (seqp sl fun i => ls.getD i [])) (hl : sl.length = ls.length) (hk : ls.length ≤ 1099511627776) (hb : ∀ b ∈ ls, Byts b ∧ b.length ≤ 1099511627776) :
    wps g H (sector_Parity s) (fun x => pr (x.2 = (parL ls).isSome) * H * own 1 x.1 (bv ((parL ls).getD []))) := by
  unfold sector_Parity
  refine wps_fact (Ent.trans hs (rsl_len _ _ _)) fun hsl => ?_
  have hsl' : sl.length = s.len := by simpa using hsl
  have hpart : ∀ i (h : i < sl.length), Ent H (byt sl[i] (ls[i]'(by omega))) := fun i h o ho => by
    have := hq o ho i sl[i] (List.getElem?_eq_getElem h)
    simpa [List.getD_eq_getElem?_getD, List.getElem?_eq_getElem (show i < ls.length by omega)] using this
  have hbad : ¬ parOk ls → ∀ A : HP, Ent (H * A) (pr (false = (parL ls).isSome) * H * own 1 ⟨none, 0, 0⟩ (bv ((parL ls).getD []))) := fun h A => by
    rw [parL, if_neg h]
    exact ent_own0 (Ent.trans (ent_left _ _) (ent_pr rfl))
  have hbad0 : ¬ parOk ls → Ent H (pr (false = (parL ls).isSome) * H * own 1 ⟨none, 0, 0⟩ (bv ((parL ls).getD []))) := fun h => by
    rw [parL, if_neg h]
    exact ent_own0 (ent_pr rfl)
  by_cases h0 : ls.length = 0
  · have hno : ¬ parOk ls := fun h => h.1 (List.eq_nil_of_length_eq_zero h0)
    refine wps_val (v := true) (wps_ite (fun _ => wps_pure (ent_val rfl)) (fun h => absurd (by simp; omega) h)) ?_
    exact wps_ite (fun _ => wps_pure (hbad0 hno)) (fun h => absurd rfl h)
  have hz : 0 < sl.length := by omega
  have hzl : 0 < ls.length := by omega
  have hhead : ls.headD [] = ls[0] := by
    cases ls with
    | nil => simp at hzl
    | cons a l => rfl
  refine wps_fact (len_of (hpart 0 hz)) fun hl0 => ?_
  refine wps_fact (cap_of (hpart 0 hz)) fun hc0 => ?_
  refine wps_val (v := ((sl[0].len : Nat) : Int) != 64) (wps_ite (fun h => absurd h (by simp; omega)) (fun _ => wps_rd 0 sl[0] hs rfl (by simp [List.getElem?_eq_getElem hz]) (wps_pure (ent_val rfl)))) ?_
  by_cases h64 : ls[0].length = 64
  rotate_left
  · have hno : ¬ parOk ls := fun h => h64 (h.2 _ (List.getElem_mem hzl)).1
    exact wps_ite (fun _ => wps_pure (hbad0 hno)) (fun h => absurd (by simp; omega) h)
  refine wps_ite (fun h => absurd h (by simp; omega)) (fun _ => ?_)
  refine wps_rd 0 sl[0] hs rfl (by simp [List.getElem?_eq_getElem hz]) ?_
  refine wps_slice 0 4 rfl rfl (by omega) (by omega) ?_
  have hsq : Ent H (byt (subS 1 sl[0] 0 4) (ls[0].take 4)) := Ent.trans (hpart 0 hz) (byt_take (by omega))
  have hb0 := hb _ (List.getElem_mem hzl)
  generalize subS 1 sl[0] 0 4 = q at *
  refine wps_loop (fun st => ex fun i : Nat => pr (st.2 = (i : Int) ∧ i ≤ ls.length ∧ ∀ j (h : j < ls.length), j < i → ls[j].length = 64 ∧ ls[j].take 4 = ls[0].take 4) * (H * own 1 st.1 (bv (parSum (ls.take i))))) (fun st => (ls.length - st.2).toNat) ?_ fun st => ?_
  · exact ent_ex 0 (ent_prr ⟨rfl, by omega, fun j _ h => by omega⟩ (ent_own0 (Ent.refl _)))
  refine wps_ex fun i => wps_pr fun ⟨hi, hin, hall⟩ => ?_
  refine wps_ite (fun hc => ?_) (fun hc => ?_)
  · have hc1 := of_decide_eq_true hc
    have hlt : i < sl.length := by omega
    have hltl : i < ls.length := by omega
    have hbi := hb _ (List.getElem_mem hltl)
    have hno : (ls[i].length = 64 ∧ ls[i].take 4 = ls[0].take 4 → False) → ¬ parOk ls := fun h hp => h (by have := hp.2 _ (List.getElem_mem hltl); rwa [hhead] at this)
    refine wps_fact (Ent.trans (ent_left _ _) (len_of (hpart i hlt))) fun hpl => ?_
    refine wps_fact (Ent.trans (ent_left _ _) (cap_of (hpart i hlt))) fun hpc => ?_
    refine wps_rd i sl[i] (Ent.trans (ent_left _ _) hs) hi (by simp [List.getElem?_eq_getElem hlt]) ?_
    by_cases h6 : ls[i].length = 64
    rotate_left
    · refine wps_val (v := true) (wps_ite (fun _ => wps_pure (ent_val rfl)) (fun h => absurd (by simp; omega) h)) ?_
      exact wps_ite (fun _ => wps_mapR (wps_pure (hbad (hno fun h => h6 h.1) _))) (fun h => absurd rfl h)
    have h40 : (ls[0].take 4).length = 4 := by simp; omega
    refine wps_val (v := !decide ((ls[0].take 4).length ≤ ls[i].length ∧ ls[i].take (ls[0].take 4).length = ls[0].take 4)) (wps_ite (fun h => absurd h (by simp; omega)) (fun _ => wps_val (bytes_HasPrefix_val (Ent.trans (ent_left _ _) (hpart i hlt)) (Ent.trans (ent_left _ _) hsq) hbi.1 (hb0.1.take 4)) (wps_pure (ent_val rfl)))) ?_
    rw [h40]
    by_cases hpre : ls[i].take 4 = ls[0].take 4
    rotate_left
    · exact wps_ite (fun _ => wps_mapR (wps_pure (hbad (hno fun h => hpre h.2) _))) (fun h => absurd (by simp [hpre]) h)
    refine wps_ite (fun h => absurd h (by simp [hpre]; omega)) (fun _ => ?_)
    refine wps_slice 4 sl[i].len rfl rfl (by omega) hpc ?_
    have hdr : Ent H (byt (subS 1 sl[i] 4 sl[i].len) (ls[i].drop 4)) := Ent.trans (hpart i hlt) (byt_drop hpl (by omega))
    have hps := parSum_len (ls := ls) i (fun j hj hjl => by rw [List.getElem?_eq_getElem hjl]; exact (hall j hjl hj).1) (by omega)
    refine wps_bind (bits_Xor_spec (a := parSum (ls.take i)) (b := ls[i].drop 4) (Ent.trans (ent_right _ _) (own_rsl _ _ _)) (Ent.trans (ent_left _ _) hdr) (by rw [hps]; split <;> omega) (by simp; omega)) fun u => wps_pure ?_
    refine ent_prr (by rw [range_add1 hi (by omega)]; (try dsimp only); omega) (ent_ex (i + 1) (ent_prr ⟨range_add1 hi (by omega), by omega, fun j hj hji => ?_⟩ ?_))
    · by_cases hje : j = i
      · subst hje; exact ⟨h6, hpre⟩
      · exact hall j hj (by omega)
    · rw [List.take_add_one, List.getElem?_eq_getElem hltl]
      show Ent _ (H * own 1 u (bv (parSum (ls.take i ++ [ls[i]]))))
      rw [parSum_snoc]
      exact Ent.starl (ent_left _ _)
  · have hie : i = ls.length := by
      have hc1 : ¬ (st.2 < ((s.len : Nat) : Int)) := fun h => hc (decide_eq_true h)
      omega
    have hps := parSum_len (ls := ls) i (fun j hj hjl => by rw [List.getElem?_eq_getElem hjl]; exact (hall j hjl hj).1) (by omega)
    rw [hie, List.take_length] at hps ⊢
    have hok : parOk ls := ⟨fun h => h0 (by rw [h]; rfl), fun b hbm => by
      obtain ⟨j, hj, rfl⟩ := List.getElem_of_mem hbm
      rw [hhead]
      exact hall j hj (by omega)⟩
    refine wps_mapR ?_
    refine wps_bind1 (bytes_Clone_spec (Ent.trans (ent_left _ _) hsq) (by simp; omega)) fun u => ?_
    refine wps_fact (Ent.trans (ent_right _ _) (own_len _ _ _)) fun ⟨hul, _⟩ => ?_
    refine wps_fact (Ent.trans (ent_left _ _) (Ent.trans (ent_right _ _) (own_len _ _ _))) fun ⟨hvl, _⟩ => ?_
    rw [bl] at hul hvl
    have hu : (ls[0].take 4).length ≤ 4 := by simp; omega
    refine wps_app 1 (bv (parSum ls)) rfl (by decide) (Ent.trans (ent_left _ _) (Ent.trans (ent_right _ _) (own_rsl _ _ _))) (by simp [bv, Value.oneCell']) (by rw [hps] at hvl; split at hvl <;> omega) fun s' hs' => wps_pure ?_
    rw [parL, if_pos hok, hhead]
    refine ent_pickS (by simp [bv]) ?_
    refine Ent.trans (ent_left _ _) (ent_pr rfl)
end Go.Proofs.Ytldmeimebebllaa
namespace Go.Proofs.Ytldmeimebebllaa
open Go.Mo
set_option linter.unusedVariables false
variable {g : Fr} {cv : CV}
def rowOf (q : G3) (seg r : Int) : Int := seg * q.2.1 + r
def parSpot (q : G3) (seg r : Int) : Int × Int := (q.1 - 1 - rowOf q seg r % q.1, 5 + rowOf q seg r)
def blkSpot (q : G3) (seg k : Int) : Int × Int := ((q.1 - 1 - rowOf q seg (k / (q.1 - 1)) % q.1 + 1 + k % (q.1 - 1)) % q.1, 5 + rowOf q seg (k / (q.1 - 1)))
structure InS (q : G3) (seg : Int) : Prop where
  right : RightB q = true
  s0 : 0 ≤ seg
  s1 : seg < q.2.2
def parOkB (q : G3) (seg r : Int) : Bool := RightB q && (decide (0 ≤ seg ∧ seg ≤ q.2.2 - 1) && decide (0 ≤ r ∧ r ≤ q.2.1 - 1))
theorem rowOf_rng {q : G3} {seg r : Int} (h : InS q seg) (hr : 0 ≤ r ∧ r < q.2.1) : 0 ≤ rowOf q seg r ∧ rowOf q seg r < q.2.2 * q.2.1 := by
  have hb := RightB.bnd h.right
  unfold rowOf
  have h1 := hb.r1
  have h0 : 0 ≤ seg * q.2.1 := Int.mul_nonneg h.s0 (by omega)
  have h2 : seg * q.2.1 ≤ (q.2.2 - 1) * q.2.1 := Int.mul_le_mul_of_nonneg_right (by have := h.s1; omega) (by omega)
  rw [Int.sub_mul] at h2
  omega
theorem geo_Parity_val {H : HP} (q : G3) (seg r : Int) : Val g H (geo_Parity q seg r) (if parOkB q seg r then (parSpot q seg r, true) else ((0, 0), false)) := by
  unfold geo_Parity
  refine wps_alloc fun c => ?_
  refine wps_alloc fun d => ?_
  refine wps_ldG q.1 q.2.1 q.2.2 (by rfl) ?_
  refine wps_val (geo_Right_val q) ?_
  have bad : ∀ {K : Bool → M ((Int × Int) × Bool)}, (K = fun r2 => (if (r2) = true then
  bindM (stA ⟨d, 0, none⟩ [(.int .i64 0), (.int .i64 0)]) fun _ =>
    bindM (ldA (fun y : (Int × Int) => [(.int .i64 y.1), (.int .i64 y.2)]) ⟨d, 0, none⟩) fun r6 =>
    pureM ((r6.1, r6.2), false)
  else
  bindM (ld (Value.int .i64) (Addr.add ⟨c, 0, none⟩ 1)) fun x31 =>
    regionM fun S3 =>
    bindM (ldI S3 (Value.int .i64) ⟨c, 0, none⟩) fun x36 =>
    bindM (ldI S3 (Value.int .i64) ⟨c, 0, none⟩) fun x40 =>
    assertM (x40 ≠ 0) <|
    bindM (stA ⟨d, 0, none⟩ [(.int .i64 (w64 ((w64 (x36 - 1)) - (Int.tmod (w64 ((w64 (seg * x31)) + r)) x40)))), (.int .i64 (w64 (5 + (w64 ((w64 (seg * x31)) + r)))))]) fun _ =>
    bindM (ldA (fun y : (Int × Int) => [(.int .i64 y.1), (.int .i64 y.2)]) ⟨d, 0, none⟩) fun r6 =>
    pureM ((r6.1, r6.2), true))) → parOkB q seg r = false → wps g (H * pc c [.int .i64 q.1, .int .i64 q.2.1, .int .i64 q.2.2] * pc d [.int .i64 0, .int .i64 0]) (K true) fun x => pr (x = if parOkB q seg r then (parSpot q seg r, true) else ((0, 0), false)) * H := by
    intro K hK hno
    subst hK
    refine wps_ite (fun _ => ?_) (fun h => absurd rfl h)
    refine wps_stA (by simp) (by simp [Value.oneCell']) ?_
    refine wps_ldA (0, 0) (by rfl) (wps_pure (ent_prr ?_ ent_drop))
    rw [hno]; rfl
  by_cases h1 : RightB q = true
  rotate_left
  · have hno : parOkB q seg r = false := by simp [parOkB, h1]
    refine wps_val (v := true) (wps_ite (fun _ => wps_pure (ent_prr rfl (Ent.refl _))) (fun h => absurd (by simp [h1]) h)) ?_
    refine wps_val (v := true) (wps_ite (fun _ => wps_pure (ent_prr rfl (Ent.refl _))) (fun h => absurd rfl h)) ?_
    exact bad rfl hno
  have hb := RightB.bnd h1
  have b1 := hb.d3
  have b2 := hb.d16
  have b3 := hb.r1
  have b4 := hb.r4
  have b5 := hb.s12
  have b6 := hb.s64
  refine wps_val (v := !decide (0 ≤ seg ∧ seg ≤ q.2.2 - 1)) (wps_ite (fun h => absurd h (by simp [h1])) (fun _ => ?_)) ?_
  · refine wps_ld q.2.2 (by rfl) ?_
    rw [w64_id (n := q.2.2 - 1) (by omega) (by omega)]
    refine wps_val (geo_within_val _ _ _) (wps_pure (ent_prr rfl (Ent.refl _)))
  by_cases h2 : 0 ≤ seg ∧ seg ≤ q.2.2 - 1
  rotate_left
  · have hno : parOkB q seg r = false := by simp only [parOkB, decide_eq_false h2]; simp
    rw [decide_eq_false h2]
    refine wps_val (v := true) (wps_ite (fun _ => wps_pure (ent_prr rfl (Ent.refl _))) (fun h => absurd rfl h)) ?_
    exact bad rfl hno
  rw [decide_eq_true h2]
  refine wps_val (v := !decide (0 ≤ r ∧ r ≤ q.2.1 - 1)) (wps_ite (fun h => absurd h (by decide)) (fun _ => ?_)) ?_
  · refine wps_ld q.2.1 (by rfl) ?_
    rw [w64_id (n := q.2.1 - 1) (by omega) (by omega)]
    refine wps_val (geo_within_val _ _ _) (wps_pure (ent_prr rfl (Ent.refl _)))
  by_cases h3 : 0 ≤ r ∧ r ≤ q.2.1 - 1
  rotate_left
  · have hno : parOkB q seg r = false := by simp only [parOkB, decide_eq_false h3]; simp
    rw [decide_eq_false h3]
    exact bad rfl hno
  have hyes : parOkB q seg r = true := by simp [parOkB, h1, h2, h3]
  have hrw := rowOf_rng (q := q) (seg := seg) (r := r) ⟨h1, h2.1, by omega⟩ ⟨h3.1, by omega⟩
  have hsc := hb.sect.2
  rw [decide_eq_true h3]
  refine wps_ite (fun h => absurd h (by decide)) (fun _ => ?_)
  refine wps_ld q.2.1 (by rfl) ?_
  refine wps_regionH ?_
  refine wps_ldI q.1 (by rfl) ?_
  refine wps_ldI q.1 (by rfl) ?_
  refine wps_assert (by omega) ?_
  have hm0 : 0 ≤ seg * q.2.1 := Int.mul_nonneg h2.1 (by omega)
  have e1 : w64 (w64 (seg * q.2.1) + r) = rowOf q seg r := by
    unfold rowOf at hrw ⊢
    rw [w64_id (n := seg * q.2.1) (by omega) (by omega), w64_id (by omega) (by omega)]
  rw [e1]
  have e2 : Int.tmod (rowOf q seg r) q.1 = rowOf q seg r % q.1 := Int.tmod_eq_emod_of_nonneg hrw.1
  have e3 : 0 ≤ rowOf q seg r % q.1 ∧ rowOf q seg r % q.1 < q.1 := ⟨Int.emod_nonneg _ (by omega), Int.emod_lt_of_pos _ (by omega)⟩
  rw [e2, w64_id (n := q.1 - 1) (by omega) (by omega), w64_id (n := q.1 - 1 - _) (by omega) (by omega), w64_id (n := 5 + _) (by omega) (by omega)]
  refine wps_stA (by simp) (by simp [Value.oneCell']) ?_
  refine wps_ldA (parSpot q seg r) (by rfl) (wps_pure (ent_prr ?_ ent_drop))
  rw [hyes]; rfl
def blkOkB (q : G3) (seg k : Int) : Bool := RightB q && (decide (0 ≤ k ∧ k ≤ placesI q) && decide (0 ≤ seg ∧ seg ≤ q.2.2 - 1))
theorem row_of_k {q : G3} {k : Int} (h : RightB q = true) (hk : 0 ≤ k ∧ k ≤ placesI q) : 0 ≤ k / (q.1 - 1) ∧ k / (q.1 - 1) ≤ q.2.1 - 1 := by
  have hb := RightB.bnd h
  have b1 := hb.d3
  refine ⟨Int.ediv_nonneg hk.1 (by omega), ?_⟩
  have : k / (q.1 - 1) < q.2.1 := Int.ediv_lt_of_lt_mul (by omega) (by have := hk.2; unfold placesI at this; omega)
  omega
theorem geo_Block_val {H : HP} (q : G3) (seg k : Int) : Val g H (geo_Block q seg k) (if blkOkB q seg k then (blkSpot q seg k, true) else ((0, 0), false)) := by
  unfold geo_Block
  refine wps_alloc fun c => ?_
  refine wps_alloc fun d => ?_
  refine wps_ldG q.1 q.2.1 q.2.2 (by rfl) ?_
  refine wps_val (geo_Right_val q) ?_
  by_cases h1 : RightB q = true
  rotate_left
  · have hno : blkOkB q seg k = false := by simp [blkOkB, h1]
    refine wps_val (v := true) (wps_ite (fun _ => wps_pure (ent_prr rfl (Ent.refl _))) (fun h => absurd (by simp [h1]) h)) ?_
    refine wps_ite (fun _ => ?_) (fun h => absurd rfl h)
    refine wps_stA (by simp) (by simp [Value.oneCell']) ?_
    refine wps_ldA (0, 0) (by rfl) (wps_pure (ent_prr ?_ ent_drop))
    rw [hno]; rfl
  have hb := RightB.bnd h1
  have b1 := hb.d3
  have b2 := hb.d16
  have b3 := hb.r1
  have b4 := hb.r4
  have b5 := hb.s12
  have b6 := hb.s64
  refine wps_val (v := !decide (0 ≤ k ∧ k ≤ placesI q)) (wps_ite (fun h => absurd h (by simp [h1])) (fun _ => ?_)) ?_
  · refine wps_ldG q.1 q.2.1 q.2.2 (by rfl) ?_
    refine wps_val (geo_places_val q) ?_
    rw [hb.places.1]
    refine wps_val (geo_within_val _ _ _) (wps_pure (ent_prr rfl (Ent.refl _)))
  by_cases h2 : 0 ≤ k ∧ k ≤ placesI q
  rotate_left
  · have hno : blkOkB q seg k = false := by simp only [blkOkB, decide_eq_false h2]; simp
    rw [decide_eq_false h2]
    refine wps_ite (fun _ => ?_) (fun h => absurd rfl h)
    refine wps_stA (by simp) (by simp [Value.oneCell']) ?_
    refine wps_ldA (0, 0) (by rfl) (wps_pure (ent_prr ?_ ent_drop))
    rw [hno]; rfl
  have hpl : placesI q ≤ 59 := hb.places.2.2
  have hrk := row_of_k h1 h2
  rw [decide_eq_true h2]
  refine wps_ite (fun h => absurd h (by decide)) (fun _ => ?_)
  refine wps_regionH ?_
  refine wps_ldGI q.1 q.2.1 q.2.2 (by rfl) ?_
  refine wps_ldI q.1 (by rfl) ?_
  have e0 : w64 (q.1 - 1) = q.1 - 1 := w64_id (by omega) (by omega)
  rw [e0]
  refine wps_assert (by omega) ?_
  have e1 : w64 (Int.tdiv k (q.1 - 1)) = k / (q.1 - 1) := by rw [Int.tdiv_eq_ediv_of_nonneg h2.1, w64_id] <;> omega
  rw [e1]
  have hpv : parOkB q seg (k / (q.1 - 1)) = blkOkB q seg k := by simp only [parOkB, blkOkB, h1, decide_eq_true h2, decide_eq_true hrk]; simp
  -- what is done with the spot
  have tail : ∀ (e : Nat) (K : (Int × Int) × Bool → M ((Int × Int) × Bool)), (K = fun x29 => bindM (stA ⟨e, 0, none⟩ [(.int .i64 x29.1.1), (.int .i64 x29.1.2)]) fun _ =>
        (if (x29.2) = true then
        regionM fun S3 =>
          bindM (ldI S3 (Value.int .i64) ⟨e, 0, none⟩) fun x34 =>
          bindM (ldI S3 (Value.int .i64) ⟨c, 0, none⟩) fun x38 =>
          assertM ((w64 (x38 - 1)) ≠ 0) <|
          bindM (ldI S3 (Value.int .i64) ⟨c, 0, none⟩) fun x43 =>
          assertM (x43 ≠ 0) <|
          bindM (st ⟨e, 0, none⟩ (.int .i64 (Int.tmod (w64 ((w64 (x34 + 1)) + (Int.tmod k (w64 (x38 - 1))))) x43))) fun _ =>
          bindM (ldA (fun y : (Int × Int) => [(.int .i64 y.1), (.int .i64 y.2)]) ⟨e, 0, none⟩) fun x46 =>
          bindM (stA ⟨d, 0, none⟩ [(.int .i64 x46.1), (.int .i64 x46.2)]) fun _ =>
          bindM (ldA (fun y : (Int × Int) => [(.int .i64 y.1), (.int .i64 y.2)]) ⟨d, 0, none⟩) fun r6 =>
          pureM ((r6.1, r6.2), x29.2)
        else
        bindM (ldA (fun y : (Int × Int) => [(.int .i64 y.1), (.int .i64 y.2)]) ⟨e, 0, none⟩) fun x46 =>
          bindM (stA ⟨d, 0, none⟩ [(.int .i64 x46.1), (.int .i64 x46.2)]) fun _ =>
          bindM (ldA (fun y : (Int × Int) => [(.int .i64 y.1), (.int .i64 y.2)]) ⟨d, 0, none⟩) fun r6 =>
          pureM ((r6.1, r6.2), x29.2))) →
      wps g (H * pc c [.int .i64 q.1, .int .i64 q.2.1, .int .i64 q.2.2] * pc d [.int .i64 0, .int .i64 0] * pc e [.int .i64 0, .int .i64 0]) (K (if parOkB q seg (k / (q.1 - 1)) then (parSpot q seg (k / (q.1 - 1)), true) else ((0, 0), false))) fun x => pr (x = if blkOkB q seg k then (blkSpot q seg k, true) else ((0, 0), false)) * H := by
    intro e K hK
    subst hK
    rw [hpv]
    by_cases h3 : blkOkB q seg k = true
    · rw [if_pos h3]
      have h3' : 0 ≤ seg ∧ seg ≤ q.2.2 - 1 := by
        simp only [blkOkB, Bool.and_eq_true, decide_eq_true_eq] at h3; exact h3.2.2
      have hrw := rowOf_rng (q := q) (seg := seg) (r := k / (q.1 - 1)) ⟨h1, h3'.1, by omega⟩ ⟨hrk.1, by omega⟩
      have e3 : 0 ≤ rowOf q seg (k / (q.1 - 1)) % q.1 ∧ rowOf q seg (k / (q.1 - 1)) % q.1 < q.1 := ⟨Int.emod_nonneg _ (by omega), Int.emod_lt_of_pos _ (by omega)⟩
      have e4 : 0 ≤ k % (q.1 - 1) ∧ k % (q.1 - 1) < q.1 - 1 := ⟨Int.emod_nonneg _ (by omega), Int.emod_lt_of_pos _ (by omega)⟩
      refine wps_stA (by simp) (by simp [Value.oneCell']) ?_
      refine wps_ite (fun _ => ?_) (fun h => absurd rfl h)
      refine wps_regionH ?_
      refine wps_ldI (parSpot q seg (k / (q.1 - 1))).1 (by rfl) ?_
      refine wps_ldI q.1 (by rfl) ?_
      rw [e0]
      refine wps_assert (by omega) ?_
      refine wps_ldI q.1 (by rfl) ?_
      refine wps_assert (by omega) ?_
      have e5 : Int.tmod k (q.1 - 1) = k % (q.1 - 1) := Int.tmod_eq_emod_of_nonneg h2.1
      have e6 : (parSpot q seg (k / (q.1 - 1))).1 = q.1 - 1 - rowOf q seg (k / (q.1 - 1)) % q.1 := rfl
      rw [e5, e6, w64_id (n := q.1 - 1 - _ + 1) (by omega) (by omega), w64_id (n := _ + k % (q.1 - 1)) (by omega) (by omega), Int.tmod_eq_emod_of_nonneg (by omega)]
      refine wps_st (by simp [ovw]) ?_
      refine wps_ldA (blkSpot q seg k) (by rfl) ?_
      refine wps_stA (by simp) (by simp [Value.oneCell']) ?_
      refine wps_ldA (blkSpot q seg k) (by rfl) (wps_pure (ent_prr ?_ ent_drop))
      rw [if_pos h3]
    · rw [if_neg h3]
      refine wps_stA (by simp) (by simp [Value.oneCell']) ?_
      refine wps_ite (fun h => absurd h (by decide)) (fun _ => ?_)
      refine wps_ldA (0, 0) (by rfl) ?_
      refine wps_stA (by simp) (by simp [Value.oneCell']) ?_
      refine wps_ldA (0, 0) (by rfl) (wps_pure (ent_prr ?_ ent_drop))
      rw [if_neg h3]
  refine wps_both ?_ ?_
  · refine wps_stepV (geo_Parity_val q seg (k / (q.1 - 1))) ?_
    refine wps_stepAlloc fun e => ?_
    exact tail e _ rfl
  · refine wps_stepAlloc fun e => ?_
    refine wps_stepV (geo_Parity_val q seg (k / (q.1 - 1))) ?_
    exact tail e _ rfl
end Go.Proofs.Ytldmeimebebllaa
namespace Go.Proofs.Ytldmeimebebllaa
open Go.Mo
set_option linter.unusedVariables false
variable {g : Fr} {cv : CV}
def spotsL (q : G3) (seg : Int) (r : Nat) : List (Int × Int) := (List.range (q.1 - 1).toNat).map (fun c : Nat => blkSpot q seg ((r : Int) * (q.1 - 1) + (c : Int))) ++ [parSpot q seg r]
def sv (l : List (Int × Int)) : List Value := l.flatMap fun s => [.int .i64 s.1, .int .i64 s.2]
theorem sv_snoc (l : List (Int × Int)) (s : Int × Int) : sv (l ++ [s]) = sv l ++ [.int .i64 s.1, .int .i64 s.2] := by simp [sv]
theorem sv_len (l : List (Int × Int)) : (sv l).length = l.length * 2 := by
  induction l with
  | nil => rfl
  | cons a l ih => simp only [sv, List.flatMap_cons, List.length_append, List.length_cons] at ih ⊢; simp at ih ⊢; omega
theorem spotsL_len (q : G3) (seg : Int) (r : Nat) (h : 3 ≤ q.1) : ((spotsL q seg r).length : Int) = q.1 := by simp [spotsL]; omega
abbrev rowsV (a b : Nat) : Value := .func (.func fid_stripe_rows_c1) #[] #[.pointer (some ⟨a, 0, none⟩), .pointer (some ⟨b, 0, none⟩)]
def RowsOk (cv : CV) : Prop := ∀ (a1 a2 : Addr) (yv : Value) (Q : Value → World → Prop) (w : World), stripe_rows_c1 cv yv a1 a2 (fun _ w' => Q (.tuple #[]) w') w → cv.enter (.func (.func fid_stripe_rows_c1) #[] #[.pointer (some a1), .pointer (some a2)]) #[yv] Q w
def rowsA (a b : Nat) (q : G3) (seg : Int) : HP := pc a [.int .i64 q.1, .int .i64 q.2.1, .int .i64 q.2.2] * pc b [.int .i64 seg]
instance (a b : Nat) (q : G3) (seg : Int) : RdC a (rowsA a b q seg) [.int .i64 q.1, .int .i64 q.2.1, .int .i64 q.2.2] := ⟨Ent.trans (ent_left _ _) (pc_ro _ _)⟩
instance (a b : Nat) (q : G3) (seg : Int) : RdC b (rowsA a b q seg) [.int .i64 seg] := ⟨Ent.trans (ent_right _ _) (pc_ro _ _)⟩
abbrev rowsX (q : G3) (seg : Int) (i : Nat) (x : Int × Slc) : HP := pr (x.1 = (i : Int)) * own 2 x.2 (sv (spotsL q seg i))
theorem rows_iter (hcv : RowsOk cv) (a b : Nat) (q : G3) (seg : Int) (hs : InS q seg) : IterX cv (rowsV a b) (fun x : Int × Slc => #[.int .i64 x.1, .slice x.2.base x.2.len x.2.cap]) q.2.1.toNat (rowsX q seg) (rowsA a b q seg) := by
  intro yv I E hstep g
  have hb := RightB.bnd hs.right
  have b1 := hb.d3
  have b2 := hb.d16
  have b3 := hb.r1
  have b4 := hb.r4
  have hse := hs.s0
  have hse2 := hs.s1
  have e0 : w64 (q.1 - 1) = q.1 - 1 := w64_id (by omega) (by omega)
  refine wps_enter (m := stripe_rows_c1 cv yv ⟨a, 0, none⟩ ⟨b, 0, none⟩) (fun Q w h => hcv _ _ _ _ _ h) ?_
  unfold stripe_rows_c1
  simp only [Nat.reduceAdd, Addr.add_mk]
  refine wps_ld q.1 (by rfl) ?_
  refine wps_ld q.2.1 (by rfl) ?_
  refine wps_loop (fun st => ex fun n : Nat => pr (st = (n : Int) ∧ (n : Int) ≤ q.2.1) * (rowsA a b q seg * I n)) (fun st => (q.2.1 - st).toNat) ?_ fun st => ?_
  · exact ent_ex 0 (ent_prr ⟨rfl, by omega⟩ (Ent.refl _))
  refine wps_ex fun n => wps_pr fun ⟨hi, hn⟩ => ?_
  refine wps_ite (fun hc => ?_) (fun hc => ?_)
  rotate_left
  · have hne : n = q.2.1.toNat := by
      have hc1 : ¬ (st < q.2.1) := fun h => hc (decide_eq_true h)
      omega
    rw [hne]
    exact wps_mapR (wps_pure (Ent.starr (ent_orl (Ent.refl _))))
  have hlt : (n : Int) < q.2.1 := by have := of_decide_eq_true hc; omega
  simp only [e0]
  refine wps_loop (fun t => ex fun c : Nat => pr (t.2 = (c : Int) ∧ (c : Int) ≤ q.1 - 1 ∧ t.1.len = c) * rowsA a b q seg * I n * own 2 t.1 (sv ((List.range c).map fun c : Nat => blkSpot q seg ((n : Int) * (q.1 - 1) + (c : Int))))) (fun t => (q.1 - 1 - t.2).toNat) ?_ fun t => ?_
  · refine ent_ex 0 (ent_own0 ?_)
    repeat first | (with_reducible refine ent_pick ?_) | (refine ent_prq ?_)
    all_goals first | exact ⟨rfl, by omega, rfl⟩ | trivial
  refine wps_ex fun c => wps_prP fun ⟨ht, hcn, hcl⟩ => ?_
  refine wps_ite (fun hc2 => ?_) (fun hc2 => ?_)
  · have hlt2 : (c : Int) < q.1 - 1 := by have := of_decide_eq_true hc2; omega
    refine wps_ldG q.1 q.2.1 q.2.2 (by rfl) ?_
    refine wps_ld seg (by rfl) ?_
    have hm : (n : Int) * (q.1 - 1) ≤ (q.2.1 - 1) * (q.1 - 1) := Int.mul_le_mul_of_nonneg_right (by omega) (by omega)
    have hm2 := hb.mul
    have hm3 : 0 ≤ (n : Int) * (q.1 - 1) := Int.mul_nonneg (by omega) (by omega)
    have hk : blkOkB q seg ((n : Int) * (q.1 - 1) + (c : Int)) = true := by
      rw [Int.sub_mul] at hm
      simp only [blkOkB, hs.right, Bool.true_and, Bool.and_eq_true, decide_eq_true_eq]
      unfold placesI
      omega
    have e1 : w64 (w64 (st * (q.1 - 1)) + t.2) = (n : Int) * (q.1 - 1) + (c : Int) := by
      rw [Int.sub_mul] at hm
      rw [hi, ht, w64_id (n := (n : Int) * (q.1 - 1)) (by omega) (by omega), w64_id (by omega) (by omega)]
    rw [e1]
    refine wps_val (geo_Block_val q seg _) ?_
    rw [if_pos hk]
    refine wps_alloc fun x8 => ?_
    refine wps_stA (by simp) (by simp [Value.oneCell']) ?_
    refine wps_ldA (blkSpot q seg ((n : Int) * (q.1 - 1) + (c : Int))) (by rfl) ?_
    refine wps_alloc fun x => ?_
    refine wps_app 2 [.int .i64 (blkSpot q seg ((n : Int) * (q.1 - 1) + (c : Int))).1, .int .i64 (blkSpot q seg ((n : Int) * (q.1 - 1) + (c : Int))).2] rfl (by decide) (rsl_pc rfl) (by simp [Value.oneCell']) (by (try dsimp only); omega) fun s' hs' => wps_pure ?_
    have hs2 : s'.len = t.1.len + 1 := hs'
    refine ent_prr (by rw [range_add1 ht (by omega)]; (try dsimp only); omega) (ent_ex (c + 1) ?_)
    refine ent_pickS (by rw [List.range_succ, List.map_append, List.map_cons, List.map_nil, sv_snoc]) ?_
    repeat first | (with_reducible refine ent_pick ?_) | (refine ent_prq ?_)
    all_goals first | exact ⟨range_add1 ht (by omega), by omega, by (try dsimp only); omega⟩ | trivial
  · have hce : c = (q.1 - 1).toNat := by
      have hc1 : ¬ (t.2 < q.1 - 1) := fun h => hc2 (decide_eq_true h)
      omega
    refine wps_mapR ?_
    refine wps_ldG q.1 q.2.1 q.2.2 (by rfl) ?_
    refine wps_ld seg (by rfl) ?_
    refine wps_val (geo_Parity_val q seg st) ?_
    have hp : parOkB q seg st = true := by
      simp only [parOkB, hs.right, Bool.true_and, Bool.and_eq_true, decide_eq_true_eq]; omega
    rw [if_pos hp]
    refine wps_alloc fun x8 => ?_
    refine wps_stA (by simp) (by simp [Value.oneCell']) ?_
    refine wps_ldA (parSpot q seg st) (by rfl) ?_
    refine wps_alloc fun x => ?_
    refine wps_app 2 [.int .i64 (parSpot q seg st).1, .int .i64 (parSpot q seg st).2] rfl (by decide) (rsl_pc rfl) (by simp [Value.oneCell']) (by (try dsimp only); omega) fun s' hs' => ?_
    refine wps_pre (H' := rowsA a b q seg * (rowsX q seg n (st, s') * I n)) ?_ ?_
    · have he : sv ((List.range c).map fun c : Nat => blkSpot q seg ((n : Int) * (q.1 - 1) + (c : Int))) ++ [.int .i64 (parSpot q seg st).1, .int .i64 (parSpot q seg st).2] = sv (spotsL q seg n) := by
        rw [spotsL, sv_snoc, hce, hi]
      rw [he]
      simp only [← star_assoc]
      repeat first | (with_reducible exact ent_drop) | (with_reducible refine ent_pick ?_) | (refine ent_prx ?_ ?_; rotate_left)
      all_goals first | exact hi | trivial
    refine wps_bind (wps_yield (hstep n (st, s') (by omega) g)) fun y => ?_
    cases y with
    | true =>
      refine wps_ite (fun h => absurd h (by decide)) (fun _ => wps_pure ?_)
      exact ent_prr (by rw [range_add1 hi (by omega)]; omega) (ent_ex (n + 1) (ent_prr ⟨range_add1 hi (by omega), by omega⟩ (Ent.refl _)))
    | false =>
      refine wps_ite (fun _ => wps_mapR (wps_pure ?_)) (fun h => absurd rfl h)
      exact Ent.starr (ent_orr (Ent.refl _))
theorem stripe_rows_spec {H : HP} (q : G3) (seg : Int) : wps g H (stripe_rows q seg) (fun v => ex fun a => ex fun b => pr (v = rowsV a b) * H * rowsA a b q seg) := by
  unfold stripe_rows
  refine wps_alloc fun a => ?_
  refine wps_alloc fun b => wps_pure (ent_ex a (ent_ex b ?_))
  unfold rowsA
  rw [star_assoc, star_assoc]
  exact ent_pr rfl
end Go.Proofs.Ytldmeimebebllaa
namespace Go.Proofs.Ytldmeimebebllaa
open Go.Mo
set_option linter.unusedVariables false
variable {g : Fr} {cv : CV}
structure BlkA where
  owner : Int
  index : Int
  ds : Slc
  data : List Int
def BlkA.cells (c : BlkA) : List Value := [.int .i64 c.owner, .int .i64 c.index, .slice c.ds.base c.ds.len c.ds.cap]
def BlkA.t (c : BlkA) : Int × Int × Slc := (c.owner, c.index, c.ds)
def BlkA.nil : BlkA := ⟨0, 0, ⟨none, 0, 0⟩, []⟩
structure BlkA.ok (c : BlkA) : Prop where
  byts : Byts c.data
  len : c.data.length ≤ 140737488355328
  ob : c.owner < 9223372036854775808
  ib : c.index < 9223372036854775808
def blkP (c : BlkA) : HP := pr c.ok * byt c.ds c.data
instance (c : BlkA) : Pers (blkP c) := by unfold blkP; infer_instance
def blocksP (s : Slc) (l : List BlkA) : HP := pr True * rsl 3 s (l.flatMap BlkA.cells) * al fun i : Nat => al fun c : BlkA => imp (l[i]? = some c) (blkP c)
instance (s : Slc) (l : List BlkA) : Pers (blocksP s l) := by unfold blocksP; infer_instance
theorem cellsK_len (c : BlkA) : c.cells.length = 3 := rfl
theorem blocksP_rsl (s : Slc) (l : List BlkA) : Ent (blocksP s l) (rsl 3 s (l.flatMap BlkA.cells)) := Ent.trans (ent_left _ _) (ent_right _ _)
theorem blocksP_get {s : Slc} {l : List BlkA} {i : Nat} {c : BlkA} (h : l[i]? = some c) : Ent (blocksP s l) (blkP c) := fun o ho => ent_right _ _ o ho i c h
theorem blocksP_len (s : Slc) (l : List BlkA) : Ent (blocksP s l) (pr (l.length = s.len)) := Ent.trans (blocksP_rsl s l) (Ent.trans (rsl_len _ _ _) fun o ho => by
  have : (l.flatMap BlkA.cells).length = s.len * 3 := ho
  rw [flat_len cellsK_len] at this
  show l.length = s.len
  omega)
def blkAt (l : List BlkA) (k : Nat) : BlkA := l.getD k BlkA.nil
theorem nil_blk (A : HP) : Ent A (blkP BlkA.nil) := fun o _ => ent_pr (A := byt BlkA.nil.ds BlkA.nil.data) (p := BlkA.nil.ok) ⟨fun n hn => by simp [BlkA.nil] at hn, by simp [BlkA.nil], by decide, by decide⟩ o (.inl ⟨rfl, rfl⟩)
theorem blocksP_at (s : Slc) (l : List BlkA) (k : Nat) : Ent (blocksP s l) (blkP (blkAt l k)) := by
  unfold blkAt
  by_cases h : k < l.length
  · rw [List.getD_eq_getElem?_getD, List.getElem?_eq_getElem h]
    exact blocksP_get (List.getElem?_eq_getElem h)
  · rw [List.getD_eq_getElem?_getD, List.getElem?_eq_none (by omega)]
    exact nil_blk _
def encAt (seq : Int) (l : List BlkA) (k : Nat) : List Int := encL seq (blkAt l k).owner (blkAt l k).index (blkAt l k).data
def encAll (seq : Int) (l : List BlkA) (n : Nat) : Bool := (List.range n).all fun k => decide (encOk seq (blkAt l k).owner (blkAt l k).index (blkAt l k).data)
theorem encAll_iff {seq : Int} {l : List BlkA} {n : Nat} : encAll seq l n = true ↔ ∀ k, k < n → encOk seq (blkAt l k).owner (blkAt l k).index (blkAt l k).data := by
  simp [encAll]
def nBlk (q : G3) : Nat := (placesI q + 1).toNat
theorem geo_Places_val {H : HP} (q : G3) (h : RightB q = true) : Val g H (geo_Places q) (placesI q) := by
  unfold geo_Places
  refine wps_alloc fun c => ?_
  refine wps_ldG q.1 q.2.1 q.2.2 (by rfl) ?_
  refine wps_val (geo_Right_val q) ?_
  refine wps_ite (fun h' => absurd h' (by simp [h])) (fun _ => ?_)
  refine wps_ldG q.1 q.2.1 q.2.2 (by rfl) ?_
  refine wps_val (geo_places_val q) (wps_pure (ent_prr (RightB.bnd h).places.1 ent_drop))
theorem stripe_encoded_spec (q : G3) (hq : RightB q = true) (seq : Int) (s : Slc) (l : List BlkA) :
    wps g (blocksP s l) (stripe_encoded q seq s) (fun t => if encAll seq l (nBlk q) then blocksP s l * rows t ((List.range (nBlk q)).map (encAt seq l)) else pr (t = ⟨none, 0, 0⟩) * blocksP s l) := by
  unfold stripe_encoded
  have hpl := (RightB.bnd hq).places.2
  refine wps_fact (blocksP_len s l) fun hl => ?_
  refine wps_alloc fun c => ?_
  refine wps_ldG q.1 q.2.1 q.2.2 (by rfl) ?_
  refine wps_val (geo_Places_val q hq) ?_
  have e0 : w64 (placesI q + 1) = placesI q + 1 := w64_id (by omega) (by omega)
  simp only [e0]
  refine wps_loop (fun t => ex fun k : Nat => ex fun sl : List Slc => pr (t.2 = (k : Int) ∧ k ≤ nBlk q ∧ encAll seq l k = true ∧ sl.length = k ∧ t.1.len = k) * blocksP s l * seqp sl (fun i => ((List.range k).map (encAt seq l)).getD i []) * own 1 t.1 (sl.map vS)) (fun t => (placesI q + 1 - t.2).toNat) ?_ fun t => ?_
  · refine ent_ex 0 (ent_ex [] (ent_own0 (ent_pers ?_ (seqp_nil _ _))))
    repeat first | (with_reducible refine ent_pick ?_) | (refine ent_prq ?_)
    all_goals first | exact ⟨rfl, by omega, rfl, rfl, rfl⟩ | trivial
  refine wps_ex fun k => wps_ex fun sl => wps_prP fun ⟨ht, hkn, hall, hsl, htl⟩ => ?_
  refine wps_ite (fun hc => ?_) (fun hc => ?_)
  · have hlt : k < nBlk q := by have := of_decide_eq_true hc; unfold nBlk; omega
    have hn60 : nBlk q ≤ 60 := by unfold nBlk; omega
    have hnb : (nBlk q : Int) = placesI q + 1 := by unfold nBlk; omega
    refine wps_alloc fun x9 => ?_
    refine wps_bindS (R := fun _ => blocksP s l * seqp sl (fun i => ((List.range k).map (encAt seq l)).getD i []) * own 1 t.1 (sl.map vS) * pc x9 (blkAt l k).cells) ?_ fun _ => ?_
    · refine wps_ite (fun hk => ?_) (fun hk => ?_)
      · have hkl : k < l.length := by have := of_decide_eq_true hk; omega
        have hget : l[k]? = some l[k] := List.getElem?_eq_getElem hkl
        have hat : blkAt l k = l[k] := by simp [blkAt, List.getD_eq_getElem?_getD, hget]
        refine wps_rdA k l[k].t (Ent.trans (ent_pick1 (A := blocksP s l)) (blocksP_rsl s l)) ht (by simp) (fun j v hj => ?_) ?_
        · have h3 : j < 3 := by have := (List.getElem?_eq_some_iff.1 hj).1; simpa using this
          rw [flat_get cellsK_len hget h3]; exact hj
        refine wps_stA (by simp) (by simp [Value.oneCell']) (wps_pure ?_)
        rw [hat]
        refine ent_pickC (by rfl) ?_
        repeat first | (with_reducible exact ent_drop) | (with_reducible refine ent_pick ?_)
      · have hkl : ¬ k < l.length := fun h => hk (decide_eq_true (by omega))
        have hat : blkAt l k = BlkA.nil := by simp [blkAt, List.getD_eq_getElem?_getD, List.getElem?_eq_none (show l.length ≤ k by omega)]
        refine wps_pure ?_
        rw [hat]
        refine ent_pickC (by rfl) ?_
        repeat first | (with_reducible exact ent_drop) | (with_reducible refine ent_pick ?_)
    refine wps_ld (blkAt l k).owner (by rfl) ?_
    refine wps_ld (blkAt l k).index (by rfl) ?_
    refine wps_ld (blkAt l k).ds (by rfl) ?_
    refine wps_pre (H' := blocksP s l * seqp sl (fun i => ((List.range k).map (encAt seq l)).getD i []) * own 1 t.1 (sl.map vS)) ?_ ?_
    · repeat with_reducible exact ent_drop
    refine wps_bind (sector_Encode_spec seq (blkAt l k).owner (blkAt l k).index (data := (blkAt l k).data) (Ent.trans (ent_pick1 (A := blocksP s l)) (Ent.trans (blocksP_at s l k) (ent_right _ _)))) fun x => ?_
    by_cases hok : encOk seq (blkAt l k).owner (blkAt l k).index (blkAt l k).data
    rotate_left
    · rw [if_neg hok]
      refine wps_pr fun hx => ?_
      refine wps_ite (fun _ => wps_mapR (wps_pure ?_)) (fun h => absurd (by simp [hx]) h)
      have hno : ¬ encAll seq l (nBlk q) = true := fun h => hok (encAll_iff.1 h k hlt)
      show Ent _ (if encAll seq l (nBlk q) = true then _ else _)
      rw [if_neg hno]
      exact ent_prr rfl ent_pick1
    · rw [if_pos hok, star_assoc]
      refine wps_pr fun hx => ?_
      refine wps_ite (fun h => absurd h (by simp [hx])) (fun _ => ?_)
      try simp only [← star_assoc]
      refine wps_alloc fun y => ?_
      refine wps_app 1 [vS x.1] rfl (by decide) (rsl_pc rfl) (by simp [Value.oneCell', vS]) (by (try dsimp only); omega) fun t2 ht2 => wps_pure ?_
      have ht3 : t2.len = t.1.len + 1 := ht2
      have hsn : (List.range (k + 1)).map (encAt seq l) = (List.range k).map (encAt seq l) ++ [encAt seq l k] := by rw [List.range_succ, List.map_append]; rfl
      refine ent_prr (by rw [range_add1 ht (by omega)]; (try dsimp only); omega) (ent_ex (k + 1) (ent_ex (sl ++ [x.1]) ?_))
      rw [hsn]
      refine ent_pickS (by simp) ?_
      refine ent_swap (A := own 1 x.1 (bv (encL seq (blkAt l k).owner (blkAt l k).index (blkAt l k).data))) (B := byt x.1 (encAt seq l k)) (own_rsl _ _ _) ?_
      refine ent_join (A := seqp sl fun i => ((List.range k).map (encAt seq l)).getD i []) (B := byt x.1 (encAt seq l k)) (seqp_snocL (by simp [hsl])) ?_
      repeat first | (with_reducible refine ent_pick ?_) | (refine ent_prq ?_)
      all_goals first | skip | trivial
      refine ⟨range_add1 ht (by omega), by omega, encAll_iff.2 fun j hj => ?_, by simp [hsl], by simp [ht3, htl]⟩
      by_cases hjk : j = k
      · subst hjk; exact hok
      · exact encAll_iff.1 hall j (by omega)
  · have hke : k = nBlk q := by
      have hc1 : ¬ (t.2 < placesI q + 1) := fun h => hc (decide_eq_true h)
      unfold nBlk at *; omega
    rw [hke] at hall hsl htl ⊢
    refine wps_mapR (wps_pure ?_)
    show Ent _ (if encAll seq l (nBlk q) = true then _ else _)
    rw [if_pos hall]
    refine ent_exr sl ?_
    simp only [← star_assoc]
    refine ent_pickS (by rfl) (ent_pick (ent_prx ⟨by simp [hsl], by simp [htl]⟩ ?_))
    repeat with_reducible exact ent_drop
end Go.Proofs.Ytldmeimebebllaa
namespace Go.Proofs.Ytldmeimebebllaa
open Go.Mo
set_option linter.unusedVariables false
variable {g : Fr} {cv : CV}
def bgate (q m : G3) (R : Rk) (s : Int × Int) (b : List Int) : Int := if (slotV q m s.1).2 then R.gate (slotV q m s.1).1 s.2 b.length else 11
def bwrite (q m : G3) (R : Rk) (s : Int × Int) (b : List Int) : Rk := if (slotV q m s.1).2 then R.write (slotV q m s.1).1 s.2 b else R
def wrAll (q m : G3) : List ((Int × Int) × List Int) → Rk → Rk × Bool
  | [], R => (R, false)
  | e :: es, R => if bgate q m R e.1 e.2 = 12 then (bwrite q m R e.1 e.2, true) else wrAll q m es (bwrite q m R e.1 e.2)
def rowL (q : G3) (seq : Int) (l : List BlkA) (r : Nat) : List (List Int) := (List.range (q.1 - 1).toNat).map fun i => encAt seq l (r * (q.1 - 1).toNat + i)
def datAt (q : G3) (seq : Int) (l : List BlkA) (r i : Nat) : List Int := if i < (q.1 - 1).toNat then encAt seq l (r * (q.1 - 1).toNat + i) else (parL (rowL q seq l r)).getD []
def rowW (q : G3) (seg seq : Int) (l : List BlkA) (r : Nat) : List ((Int × Int) × List Int) := (List.range q.1.toNat).map fun i => ((spotsL q seg r).getD i (0, 0), datAt q seq l r i)
def restW (q : G3) (seg seq : Int) (l : List BlkA) (r : Nat) : List ((Int × Int) × List Int) := ((List.range q.2.1.toNat).drop r).flatMap (rowW q seg seq l)
theorem restW_step {q : G3} {seg seq : Int} {l : List BlkA} {r : Nat} (h : r < q.2.1.toNat) : restW q seg seq l r = rowW q seg seq l r ++ restW q seg seq l (r + 1) := by
  unfold restW
  rw [List.drop_eq_getElem_cons (by simpa using h)]
  simp
theorem restW_end {q : G3} {seg seq : Int} {l : List BlkA} : restW q seg seq l q.2.1.toNat = [] := by
  unfold restW
  rw [List.drop_of_length_le (by simp)]; rfl
def swrite (q m : G3) (R : Rk) (seg seq : Int) (l : List BlkA) : Rk × Int :=
  if ¬ (0 ≤ seg ∧ seg < q.2.2) ∨ seq < 1 ∨ seq > 4294967295 then (R, 28)
  else if encAll seq l (nBlk q) = false ∨ nBlk q < l.length then (R, 41)
  else if 1 < (badL q m R).length then (R, 14)
  else if (wrAll q m (restW q seg seq l 0) R).2 = true then ((wrAll q m (restW q seg seq l 0) R).1, 12)
  else if 1 < (badL q m (wrAll q m (restW q seg seq l 0) R).1).length then ((wrAll q m (restW q seg seq l 0) R).1, 14)
  else ((wrAll q m (restW q seg seq l 0) R).1, 0)
theorem seqp_sub {sl : List Slc} {L : List (List Int)} (a n : Nat) (hl : sl.length = L.length) : Ent (seqp sl fun i => L.getD i []) (seqp ((sl.drop a).take n) fun i => ((L.drop a).take n).getD i []) := fun o ho k s hk => by
  rw [List.getElem?_take] at hk
  split at hk
  · rename_i hkn
    rw [List.getElem?_drop] at hk
    have h := ho (a + k) s hk
    have e : ((L.drop a).take n).getD k [] = L.getD (a + k) [] := by
      simp [List.getD_eq_getElem?_getD, hkn, List.getElem?_drop]
    show (byt s (((L.drop a).take n).getD k [])).p o
    rw [e]; exact h
  · cases hk
theorem sv_get {l : List (Int × Int)} {i : Nat} {s : Int × Int} (h : l[i]? = some s) {j : Nat} (hj : j < 2) : (sv l)[i * 2 + j]? = [Value.int .i64 s.1, Value.int .i64 s.2][j]? :=
  flat_get (f := fun s : Int × Int => [Value.int .i64 s.1, Value.int .i64 s.2]) (z := 2) (fun _ => rfl) h hj
theorem rowL_eq {q : G3} {seq : Int} {l : List BlkA} {r : Nat} (hq : RightB q = true) (hr : (r : Int) < q.2.1) : (((List.range (nBlk q)).map (encAt seq l)).drop (r * (q.1 - 1).toNat)).take (q.1 - 1).toNat = rowL q seq l r := by
  have hb := RightB.bnd hq
  have b1 := hb.d3
  have hm := hb.mul
  have hm1 : ((r : Int) + 1) * (q.1 - 1) ≤ q.2.1 * (q.1 - 1) := Int.mul_le_mul_of_nonneg_right (by omega) (by omega)
  obtain ⟨W, hW⟩ : ∃ W : Nat, q.1 - 1 = (W : Int) := ⟨(q.1 - 1).toNat, by omega⟩
  have hn : (nBlk q : Int) = q.2.1 * (q.1 - 1) := by unfold nBlk placesI; omega
  rw [hW] at hm1 hn
  have hW2 : (q.1 - 1).toNat = W := by omega
  rw [Int.add_mul, Int.one_mul, ← Int.natCast_mul] at hm1
  have hle : r * W + W ≤ nBlk q := by omega
  unfold rowL
  rw [hW2]
  apply List.ext_getElem?
  intro i
  by_cases hi : i < W
  · rw [List.getElem?_take, if_pos hi, List.getElem?_drop, List.getElem?_map, List.getElem?_map, List.getElem?_range (by omega), List.getElem?_range hi]; rfl
  · rw [List.getElem?_take, if_neg hi, List.getElem?_map, List.getElem?_eq_none (by simp; omega)]; rfl
theorem encAt_len {seq : Int} {l : List BlkA} {k n : Nat} (h : encAll seq l n = true) (hk : k < n) : (encAt seq l k).length = 64 := encL_len (encAll_iff.1 h k hk).2.2.2
theorem stripe_Write_spec (hcv : RowsOk cv) (bb rb : Nat) (q m : G3) (hq : RightB q = true) (R : Rk) (ds : Slc) (ps : List Nat) (seg seq : Int) (s : Slc) (l : List BlkA) (hby : ∀ c ∈ l, Byts c.data) :
    wps g (blocksP s l * bnk bb rb q m * rackP rb R ds ps) (stripe_Write cv (ptr bb) seg seq s) (fun e => pr (e = (swrite q m R seg seq l).2) * blocksP s l * bnk bb rb q m * rackP rb (swrite q m R seg seq l).1 ds ps) := by
  unfold stripe_Write
  have hb := RightB.bnd hq
  have b1 := hb.d3
  have b2 := hb.d16
  have b3 := hb.r1
  have b4 := hb.r4
  have b5 := hb.s12
  have b6 := hb.s64
  have hpl := hb.places.2
  refine wps_fact (Ent.trans (ent_pick1 (A := blocksP s l)) (blocksP_len s l)) fun hl => ?_
  refine wps_alloc fun x4 => ?_
  refine wps_alloc fun x8 => ?_
  refine wps_ld (ptr bb) (by rfl) ?_
  refine wps_valH (fun _ => bank_Geo_val bb rb q m) ?_
  refine wps_alloc fun x9 => ?_
  refine wps_stA (by simp) (by simp [Value.oneCell']) ?_
  refine wps_pre (H' := blocksP s l * bnk bb rb q m * rackP rb R ds ps * pc x4 [.pointer (ptr bb)] * pc x8 [.int .i64 0] * pc x9 [.int .i64 q.1, .int .i64 q.2.1, .int .i64 q.2.2]) ?_ ?_
  · refine ent_pickC (by rfl) ?_
    repeat with_reducible exact ent_drop
  refine wps_val (v := decide (¬ (0 ≤ seg ∧ seg < q.2.2))) ?_ ?_
  · refine wps_ite (fun h => wps_pure (ent_prr ?_ (Ent.refl _))) (fun h => ?_)
    · have := of_decide_eq_true h
      exact (decide_eq_true (by omega)).symm
    · have h' : ¬ seg < 0 := fun h2 => h (decide_eq_true h2)
      refine wps_ld q.2.2 (by rfl) (wps_pure (ent_prr ?_ (Ent.refl _)))
      exact decide_eq_decide.2 (by omega)
  refine wps_val (v := decide (¬ (0 ≤ seg ∧ seg < q.2.2) ∨ seq < 1)) ?_ ?_
  · refine wps_ite (fun h => wps_pure (ent_prr ?_ (Ent.refl _))) (fun h => wps_pure (ent_prr ?_ (Ent.refl _)))
    · exact (decide_eq_true (.inl (of_decide_eq_true h))).symm
    · exact decide_eq_decide.2 ⟨.inr, fun h2 => h2.elim (fun h3 => absurd (decide_eq_true h3) h) id⟩
  refine wps_val (v := decide (¬ (0 ≤ seg ∧ seg < q.2.2) ∨ seq < 1 ∨ seq > 4294967295)) ?_ ?_
  · refine wps_ite (fun h => wps_pure (ent_prr ?_ (Ent.refl _))) (fun h => wps_pure (ent_prr ?_ (Ent.refl _)))
    · have := of_decide_eq_true h
      exact (decide_eq_true (by omega)).symm
    · have h' : ¬ (¬ (0 ≤ seg ∧ seg < q.2.2) ∨ seq < 1) := fun h2 => h (decide_eq_true h2)
      exact decide_eq_decide.2 (by omega)
  refine wps_ite (fun h => ?_) (fun h => ?_)
  · have h' := of_decide_eq_true h
    have hsw : swrite q m R seg seq l = (R, 28) := if_pos h'
    rw [hsw]
    refine wps_st (by simp) ?_
    refine wps_ld 28 (by rfl) (wps_pure ?_)
    repeat first | (with_reducible refine ent_pick ?_) | (refine ent_prq ?_)
    all_goals first | rfl | trivial
  have h28 : ¬ (¬ (0 ≤ seg ∧ seg < q.2.2) ∨ seq < 1 ∨ seq > 4294967295) := fun h2 => h (decide_eq_true h2)
  have hseg : 0 ≤ seg ∧ seg < q.2.2 := by omega
  refine wps_ldG q.1 q.2.1 q.2.2 (by rfl) ?_
  refine wps_call (F := bnk bb rb q m * rackP rb R ds ps * pc x4 [.pointer (ptr bb)] * pc x8 [.int .i64 0] * pc x9 [.int .i64 q.1, .int .i64 q.2.1, .int .i64 q.2.2]) (fun _ => stripe_encoded_spec q hq seq s l) ?_ fun t => ?_
  · repeat first | (with_reducible exact ent_drop) | (with_reducible refine ent_pick ?_)
  refine wps_alloc fun x10 => ?_
  refine wps_st (by simp) ?_
  refine wps_ld t (by rfl) ?_
  have hnb : (nBlk q : Int) = placesI q + 1 := by unfold nBlk; omega
  by_cases hall : encAll seq l (nBlk q) = true
  rotate_left
  · have h41 : encAll seq l (nBlk q) = false ∨ nBlk q < l.length := .inl (by simpa using hall)
    have hsw : swrite q m R seg seq l = (R, 41) := by unfold swrite; rw [if_neg h28, if_pos h41]
    rw [hsw]
    simp only [hall, if_false, Bool.false_eq_true]
    simp only [← star_assoc]
    refine wps_prP fun ht => ?_
    subst ht
    refine wps_val (v := true) (wps_ite (fun _ => wps_pure (ent_val rfl)) (fun h => absurd rfl h)) ?_
    refine wps_ite (fun _ => ?_) (fun h => absurd rfl h)
    refine wps_st (by simp) ?_
    refine wps_ld 41 (by rfl) (wps_pure ?_)
    repeat first | (with_reducible refine ent_pick ?_) | (refine ent_prq ?_)
    all_goals first | rfl | trivial
  simp only [hall, if_true]
  unfold rows
  refine wps_exP fun sl => ?_
  simp only [← star_assoc]
  refine wps_prP fun ⟨hsl, htl⟩ => ?_
  have htl' : t.len = nBlk q := by simpa using htl
  have hsl' : sl.length = nBlk q := by simpa using hsl
  refine wps_val (v := decide (nBlk q < l.length)) ?_ ?_
  · refine wps_ite (fun h => absurd h (by simp; omega)) (fun _ => ?_)
    refine wps_ld t (by rfl) (wps_pure (ent_prr ?_ (Ent.refl _)))
    exact decide_eq_decide.2 (by omega)
  by_cases hgt : nBlk q < l.length
  · have hsw : swrite q m R seg seq l = (R, 41) := by unfold swrite; rw [if_neg h28, if_pos (.inr hgt)]
    rw [hsw]
    refine wps_ite (fun _ => ?_) (fun h => absurd (decide_eq_true hgt) h)
    refine wps_st (by simp) ?_
    refine wps_ld 41 (by rfl) (wps_pure ?_)
    repeat first | (with_reducible refine ent_pick ?_) | (refine ent_prq ?_)
    all_goals first | rfl | trivial
  have h41 : ¬ (encAll seq l (nBlk q) = false ∨ nBlk q < l.length) := fun h => h.elim (fun h => by simp [hall] at h) hgt
  refine wps_ite (fun h => absurd (of_decide_eq_true h) hgt) (fun _ => ?_)
  refine wps_ld (ptr bb) (by rfl) ?_
  refine wps_call2 (fun _ => bank_Bad_spec bb rb q m R ds ps b2) fun bd => ?_
  simp only [← star_assoc]
  refine wps_fact (Ent.trans (ent_pick1 (A := own 1 bd (iv (badL q m R)))) (own_len _ _ _)) fun ⟨hbl, _⟩ => ?_
  have hbl' : (badL q m R).length = bd.len := by simpa [iv] using hbl
  by_cases hbad : 1 < (badL q m R).length
  · have hsw : swrite q m R seg seq l = (R, 14) := by unfold swrite; rw [if_neg h28, if_neg h41, if_pos hbad]
    rw [hsw]
    refine wps_ite (fun _ => ?_) (fun h => absurd (by simp; omega) h)
    refine wps_st (by simp) ?_
    refine wps_ld 14 (by rfl) (wps_pure ?_)
    repeat first | (with_reducible refine ent_pick ?_) | (refine ent_prq ?_)
    all_goals first | rfl | trivial
  have hsw : swrite q m R seg seq l = if (wrAll q m (restW q seg seq l 0) R).2 = true then ((wrAll q m (restW q seg seq l 0) R).1, 12) else if 1 < (badL q m (wrAll q m (restW q seg seq l 0) R).1).length then ((wrAll q m (restW q seg seq l 0) R).1, 14) else ((wrAll q m (restW q seg seq l 0) R).1, 0) := by
    unfold swrite; rw [if_neg h28, if_neg h41, if_neg hbad]
  rw [hsw]
  refine wps_ite (fun h => absurd h (by simp; omega)) (fun _ => ?_)
  refine wps_ldG q.1 q.2.1 q.2.2 (by rfl) ?_
  refine wps_bind (stripe_rows_spec q seg) fun v => ?_
  refine wps_ex fun ra => wps_ex fun rc => ?_
  rw [star_assoc, star_assoc]
  refine wps_pr fun hv => ?_
  subst hv
  generalize hL : (List.range (nBlk q)).map (encAt seq l) = L at *
  have hLl : L.length = nBlk q := by rw [← hL]; simp
  refine wps_rangeX (F := emp)
    (fun i => ex fun R' : Rk => pr (wrAll q m (restW q seg seq l 0) R = wrAll q m (restW q seg seq l i) R') * blocksP s l * bnk bb rb q m * rackP rb R' ds ps * pc x4 [.pointer (ptr bb)] * pc x8 [.int .i64 0] * pc x9 [.int .i64 q.1, .int .i64 q.2.1, .int .i64 q.2.2] * pc x10 [vS t] * seqp sl (fun i => L.getD i []) * own 1 t (sl.map vS))
    (fun j => match j with | .ret => ex fun R' : Rk => pr (wrAll q m (restW q seg seq l 0) R = (R', true)) * blocksP s l * bnk bb rb q m * rackP rb R' ds ps * pc x8 [.int .i64 12] | .exit _ => pr False)
    (fun i x t' => pr (t' = x) * (rowsA ra rc q seg * (rowsX q seg i x * ex fun R' : Rk => pr (wrAll q m (restW q seg seq l 0) R = wrAll q m (restW q seg seq l i) R') * blocksP s l * bnk bb rb q m * rackP rb R' ds ps * pc x4 [.pointer (ptr bb)] * pc x8 [.int .i64 0] * pc x9 [.int .i64 q.1, .int .i64 q.2.1, .int .i64 q.2.2] * pc x10 [vS t] * seqp sl (fun i => L.getD i []) * own 1 t (sl.map vS))))
    (rows_iter hcv ra rc q seg ⟨hq, hseg.1, hseg.2⟩) ?_ ?_ ?_ ?_ ?_ ?_
  · refine Ent.trans ?_ (Ent.of_eq (emp_star _).symm)
    refine ent_exr R ?_
    simp only [← star_assoc]
    refine ent_pick (ent_pick (ent_pickC (by rfl) ?_))
    repeat first | (with_reducible exact ent_drop) | (with_reducible refine ent_pick ?_) | (refine ent_prx ?_ ?_; rotate_left)
    all_goals first | rfl | trivial
  · intro i x hx g
    exact wps_pure (ent_prr rfl (Ent.refl _))
  · intro i x hx t' g
    refine wps_pr fun ht => ?_
    subst ht
    refine wps_exP fun R' => ?_
    simp only [← star_assoc]
    refine wps_prP fun hR => ?_
    refine wps_prP fun hxi => ?_
    have hi : (i : Int) < q.2.1 := by omega
    refine wps_ld q.1 (by rfl) ?_
    refine wps_ld t (by rfl) ?_
    obtain ⟨W, hW⟩ : ∃ W : Nat, q.1 - 1 = (W : Int) := ⟨(q.1 - 1).toNat, by omega⟩
    have hW2 : (q.1 - 1).toNat = W := by omega
    have hWm : i * W ≤ 45 := by
      have : i * W ≤ 3 * 15 := Nat.mul_le_mul (by omega) (by omega)
      omega
    have hm1 : ((i : Int) + 1) * (q.1 - 1) ≤ q.2.1 * (q.1 - 1) := Int.mul_le_mul_of_nonneg_right (by omega) (by omega)
    have hnb2 : (nBlk q : Int) = q.2.1 * (q.1 - 1) := by rw [hnb]; unfold placesI; omega
    rw [hW] at hm1 hnb2
    rw [Int.add_mul, Int.one_mul, ← Int.natCast_mul] at hm1
    have hle : i * W + W ≤ nBlk q := by omega
    have e1 : w64 (q.1 - 1) = (W : Int) := by rw [w64_id] <;> omega
    have e2 : w64 (t'.1 * (W : Int)) = ((i * W : Nat) : Int) := by rw [hxi, ← Int.natCast_mul, w64_id] <;> omega
    have e3 : w64 (w64 (t'.1 + 1) * (W : Int)) = ((i * W + W : Nat) : Int) := by
      rw [hxi, w64_id (n := (i : Int) + 1) (by omega) (by omega), Int.add_mul, Int.one_mul, ← Int.natCast_mul, w64_id] <;> omega
    simp only [e1, e2, e3]
    refine wps_fact (Ent.trans (ent_pick1 (A := own 1 t (sl.map vS))) (own_len _ _ _)) fun ⟨_, htc⟩ => ?_
    refine wps_slice (i * W) (i * W + W) rfl rfl (by omega) (by omega) ?_
    have hsubS : Ent (own 1 t (sl.map vS)) (rsl 1 (subS 1 t (i * W) (i * W + W)) (((sl.drop (i * W)).take W).map vS)) := Ent.trans (own_rsl _ _ _) (Ent.trans (rsl_sub (l := i * W) (h := i * W + W) (by omega) (by omega)) (Ent.of_eq (by
      rw [show i * W + W - i * W = W by omega, Nat.mul_one, Nat.mul_one, ← List.map_drop, ← List.map_take])))
    have hsubQ : Ent (seqp sl fun i => L.getD i []) (seqp ((sl.drop (i * W)).take W) fun j => (rowL q seq l i).getD j []) := by
      have := seqp_sub (sl := sl) (L := L) (i * W) W (by omega)
      have hrl := rowL_eq (q := q) (seq := seq) (l := l) (r := i) hq hi
      rw [hW2, hL] at hrl
      rwa [hrl] at this
    have hown : (subS 1 t (i * W) (i * W + W)).len = W := by rw [subS_len]; omega
    generalize subS 1 t (i * W) (i * W + W) = ow at *
    have hrLl : (rowL q seq l i).length = W := by simp [rowL, hW2]
    have hslW : ((sl.drop (i * W)).take W).length = W := by simp; omega
    have hbk : ∀ k, Byts (encAt seq l k) := fun k => encL_byts (by
      unfold blkAt
      by_cases h : k < l.length
      · rw [List.getD_eq_getElem?_getD, List.getElem?_eq_getElem h]; exact hby _ (List.getElem_mem h)
      · rw [List.getD_eq_getElem?_getD, List.getElem?_eq_none (by omega)]; exact fun n hn => by simp [BlkA.nil] at hn)
    refine wps_bind (sector_Parity_spec (s := ow) (sl := (sl.drop (i * W)).take W) (ls := rowL q seq l i) (Ent.trans (ent_pick1 (A := own 1 t (sl.map vS))) hsubS) (Ent.trans (ent_pick1 (A := seqp sl fun i => L.getD i [])) hsubQ) (by omega) (by omega) (fun b hb => ?_)) fun p => ?_
    · simp only [rowL, hW2, List.mem_map, List.mem_range] at hb
      obtain ⟨j, hj, rfl⟩ := hb
      refine ⟨hbk _, ?_⟩
      rw [encAt_len hall (by omega)]; omega
    simp only [← star_assoc]
    refine wps_prP fun _ => ?_
    refine wps_swap (A := own 1 p.1 (bv ((parL (rowL q seq l i)).getD []))) (B := byt p.1 ((parL (rowL q seq l i)).getD [])) (own_rsl _ _ _) ?_
    refine wps_fact (Ent.trans (ent_pick1 (A := own 2 t'.2 (sv (spotsL q seg i)))) (own_len _ _ _)) fun ⟨hspl, _⟩ => ?_
    have hspl2 := spotsL_len q seg i b1
    rw [sv_len] at hspl
    have htl2 : (t'.2.len : Int) = q.1 := by omega
    refine wps_loop (fun st => ex fun j : Nat => ex fun R2 : Rk => pr (st = (j : Int) ∧ (j : Int) ≤ q.1 ∧ wrAll q m (restW q seg seq l 0) R = wrAll q m ((rowW q seg seq l i).drop j ++ restW q seg seq l (i + 1)) R2) * rowsA ra rc q seg * own 2 t'.2 (sv (spotsL q seg i)) * blocksP s l * bnk bb rb q m * rackP rb R2 ds ps * pc x4 [.pointer (ptr bb)] * pc x8 [.int .i64 0] * pc x9 [.int .i64 q.1, .int .i64 q.2.1, .int .i64 q.2.2] * pc x10 [vS t] * seqp sl (fun i => L.getD i []) * own 1 t (sl.map vS) * byt p.1 ((parL (rowL q seq l i)).getD [])) (fun st => (q.1 - st).toNat) ?_ fun st => ?_
    · refine ent_ex 0 (ent_ex R' ?_)
      repeat first | (with_reducible refine ent_pick ?_) | (refine ent_prq ?_)
      all_goals first | trivial | skip
      refine ⟨rfl, by omega, ?_⟩
      rw [List.drop_zero, ← restW_step (q := q) (seg := seg) (seq := seq) (l := l) (r := i) hx]
      exact hR
    refine wps_ex fun j => wps_ex fun R2 => wps_prP fun ⟨hj, hjn, hR2⟩ => ?_
    refine wps_ite (fun hc => ?_) (fun hc => ?_)
    rotate_left
    · have hje : j = q.1.toNat := by
        have hc1 : ¬ (st < ((t'.2.len : Nat) : Int)) := fun h => hc (decide_eq_true h)
        omega
      refine wps_mapR (wps_pure ?_)
      show Ent _ (rowsA ra rc q seg * ex _)
      refine ent_exr R2 ?_
      simp only [← star_assoc]
      rw [hje, List.drop_of_length_le (by simp [rowW]), List.nil_append] at hR2
      refine ent_pick (ent_pick (ent_pick (ent_pick (ent_pick (ent_pick (ent_pick (ent_pick (ent_pick (ent_prx hR2 ?_)))))))))
      repeat with_reducible exact ent_drop
    have hjq : (j : Int) < q.1 := by have := of_decide_eq_true hc; omega
    have hjl : j < (spotsL q seg i).length := by omega
    have hget : (spotsL q seg i)[j]? = some (spotsL q seg i)[j] := List.getElem?_eq_getElem hjl
    have hgD : (spotsL q seg i).getD j (0, 0) = (spotsL q seg i)[j] := by rw [List.getD_eq_getElem?_getD, hget]; rfl
    have hdrop : (rowW q seg seq l i).drop j = ((spotsL q seg i)[j], datAt q seq l i j) :: (rowW q seg seq l i).drop (j + 1) := by
      rw [List.drop_eq_getElem_cons (by simp [rowW]; omega)]
      congr 1
      simp only [rowW, List.getElem_map, List.getElem_range, hgD]
    rw [hdrop, List.cons_append, wrAll] at hR2
    generalize hsp : (spotsL q seg i)[j] = sp at *
    refine wps_rdA j sp (Ent.trans (ent_pick1 (A := own 2 t'.2 (sv (spotsL q seg i)))) (own_rsl _ _ _)) hj (by simp) (fun o v ho => ?_) ?_
    · have h2 : o < 2 := by have := (List.getElem?_eq_some_iff.1 ho).1; simpa using this
      rw [sv_get hget h2]; exact ho
    refine wps_alloc fun x18 => ?_
    refine wps_stA (by simp) (by simp [Value.oneCell']) ?_
    refine wps_bindS (R := fun b7 => rowsA ra rc q seg * own 2 t'.2 (sv (spotsL q seg i)) * blocksP s l * bnk bb rb q m * rackP rb R2 ds ps * pc x4 [.pointer (ptr bb)] * pc x8 [.int .i64 0] * pc x9 [.int .i64 q.1, .int .i64 q.2.1, .int .i64 q.2.2] * pc x10 [vS t] * seqp sl (fun i => L.getD i []) * own 1 t (sl.map vS) * byt p.1 ((parL (rowL q seq l i)).getD []) * pc x18 [.int .i64 sp.1, .int .i64 sp.2] * byt b7 (datAt q seq l i j)) ?_ fun b7 => ?_
    · refine wps_ite (fun hjw => ?_) (fun hjw => ?_)
      · have hjW : j < W := by have := of_decide_eq_true hjw; omega
        have hgs : ((sl.drop (i * W)).take W)[j]? = some sl[i * W + j] := by rw [List.getElem?_take, if_pos hjW, List.getElem?_drop, List.getElem?_eq_getElem (by omega)]
        refine wps_rd j sl[i * W + j] (Ent.trans (ent_pick1 (A := own 1 t (sl.map vS))) hsubS) hj (by rw [List.getElem?_map, hgs]; rfl) ?_
        have hda : datAt q seq l i j = L.getD (i * W + j) [] := by
          rw [datAt, hW2, if_pos hjW, ← hL, List.getD_eq_getElem?_getD, List.getElem?_map, List.getElem?_range (by omega)]; rfl
        rw [hda]
        refine wps_swap (A := seqp sl fun i => L.getD i []) (B := (seqp sl fun i => L.getD i []) * byt sl[i * W + j] (L.getD (i * W + j) [])) (ent_and (Ent.refl _) (seqp_get (List.getElem?_eq_getElem (by omega)))) ?_
        simp only [← star_assoc]
        refine wps_pure ?_
        show Ent _ (_ * _)
        repeat first | (with_reducible exact ent_drop) | (with_reducible refine ent_pick ?_) | (refine ent_pickC (by rfl) ?_)
      · have hjW : ¬ j < W := fun h2 => hjw (decide_eq_true (by omega))
        have hda : datAt q seq l i j = (parL (rowL q seq l i)).getD [] := by rw [datAt, hW2, if_neg hjW]
        rw [hda]
        refine wps_swap (A := byt p.1 ((parL (rowL q seq l i)).getD [])) (B := byt p.1 ((parL (rowL q seq l i)).getD []) * byt p.1 ((parL (rowL q seq l i)).getD [])) (ent_and (Ent.refl _) (Ent.refl _)) ?_
        simp only [← star_assoc]
        refine wps_pure ?_
        show Ent _ (_ * _)
        refine ent_pick ?_
        repeat first | (with_reducible exact ent_drop) | (with_reducible refine ent_pick ?_) | (refine ent_pickC (by rfl) ?_)
    refine wps_ld (ptr bb) (by rfl) ?_
    refine wps_ld sp.1 (by rfl) ?_
    refine wps_ld sp.2 (by rfl) ?_
    have hdl : (datAt q seq l i j).length ≤ 1099511627776 := by
      unfold datAt
      rw [hW2]
      split
      · rw [encAt_len hall (by omega)]; omega
      · unfold parL
        split
        · rename_i hpo
          have h1 := parSum_len (ls := rowL q seq l i) (rowL q seq l i).length (fun i' _ hi' => by
            rw [List.getElem?_eq_getElem hi']; exact (hpo.2 _ (List.getElem_mem hi')).1) (Nat.le_refl _)
          rw [List.take_length] at h1
          simp only [Option.getD_some, List.length_append, List.length_take, h1]
          split <;> omega
        · simp
    refine wps_call3 (fun _ => bank_Write_spec (H := byt b7 (datAt q seq l i j)) bb rb q m R2 ds ps sp.1 sp.2 b7 (datAt q seq l i j) (Ent.refl _) hdl) fun e => ?_
    simp only [← star_assoc]
    refine wps_prP fun he => ?_
    have he' : e = bgate q m R2 sp (datAt q seq l i j) := he
    have hRw : (if (slotV q m sp.1).2 = true then R2.write (slotV q m sp.1).1 sp.2 (datAt q seq l i j) else R2) = bwrite q m R2 sp (datAt q seq l i j) := rfl
    rw [hRw]
    refine wps_ite (fun h12 => ?_) (fun h12 => ?_)
    · have h12' : bgate q m R2 sp (datAt q seq l i j) = 12 := by rw [← he']; simpa using h12
      rw [if_pos h12'] at hR2
      refine wps_st (by simp) (wps_mapR (wps_pure ?_))
      show Ent _ (rowsA ra rc q seg * ex _)
      refine ent_exr (bwrite q m R2 sp (datAt q seq l i j)) ?_
      simp only [← star_assoc]
      refine ent_pickC (by rfl) (ent_pick (ent_pick (ent_pick (ent_prx hR2 ?_))))
      repeat with_reducible exact ent_drop
    · have h12' : ¬ bgate q m R2 sp (datAt q seq l i j) = 12 := by rw [← he']; simpa using h12
      rw [if_neg h12'] at hR2
      refine wps_pure (ent_prr (by rw [range_add1 hj (by omega)]; omega) (ent_ex (j + 1) (ent_ex (bwrite q m R2 sp (datAt q seq l i j)) ?_)))
      repeat first | (with_reducible refine ent_pick ?_) | (refine ent_prq ?_)
      all_goals first | exact ⟨range_add1 hj (by omega), by omega, hR2⟩ | trivial
  · intro D
    refine wps_exP fun R' => ?_
    simp only [← star_assoc]
    refine wps_prP fun hR => ?_
    rw [restW_end, wrAll] at hR
    rw [hR]
    refine wps_ld (ptr bb) (by rfl) ?_
    refine wps_call2 (fun _ => bank_Bad_spec bb rb q m R' ds ps b2) fun bd2 => ?_
    simp only [← star_assoc]
    refine wps_fact (Ent.trans (ent_pick1 (A := own 1 bd2 (iv (badL q m R')))) (own_len _ _ _)) fun ⟨hbl2, _⟩ => ?_
    have hbl2' : (badL q m R').length = bd2.len := by simpa [iv] using hbl2
    by_cases hbad2 : 1 < (badL q m R').length
    · refine wps_ite (fun _ => ?_) (fun h => absurd (by simp; omega) h)
      refine wps_st (by simp) ?_
      refine wps_take ?_
      refine wps_ld 14 (by rfl) (wps_pure ?_)
      simp only [Bool.false_eq_true, if_false, hbad2, if_true]
      repeat first | (with_reducible refine ent_pick ?_) | (refine ent_prq ?_)
      all_goals first | rfl | trivial
    · refine wps_ite (fun h => absurd h (by simp; omega)) (fun _ => ?_)
      refine wps_st (by simp) ?_
      refine wps_take ?_
      refine wps_ld 0 (by rfl) (wps_pure ?_)
      simp only [Bool.false_eq_true, if_false, hbad2]
      repeat first | (with_reducible refine ent_pick ?_) | (refine ent_prq ?_)
      all_goals first | rfl | trivial
  · intro D
    refine wps_exP fun R' => ?_
    simp only [← star_assoc]
    refine wps_prP fun hR => ?_
    rw [hR]
    refine wps_take ?_
    refine wps_ld 12 (by rfl) (wps_pure ?_)
    simp only [if_true]
    repeat first | (with_reducible refine ent_pick ?_) | (refine ent_prq ?_)
    all_goals first | rfl | trivial
  · intro D id
    exact wps_false (fun o ho => by
      have := ent_right _ _ o (ent_left _ _ o ho)
      exact ent_right _ _ o this)
end Go.Proofs.Ytldmeimebebllaa
namespace Go.Proofs.Ytldmeimebebllaa
open Go.Mo
set_option linter.unusedVariables false
variable {g : Fr} {cv : CV}
def Dk.bys (D : Dk) : Prop := (∀ k, Byts (D.lasts k)) ∧ ∀ j b, D.cached j = some b → Byts b
def Rk.bys (R : Rk) : Prop := ∀ j, (R.dk j).bys
theorem Dk.bys.sec {D : Dk} (h : D.bys) (s : Int) : Byts (D.sec s) := by
  unfold Dk.sec
  cases hc : D.cached s with
  | some b => exact h.2 s b hc
  | none => exact h.1 _
theorem Rk.bys.rd {R : Rk} (h : R.bys) (k s : Int) : Byts (R.rd k s) := by
  unfold Rk.rd; split
  · exact (h _).sec s
  · exact fun n hn => by simp at hn
def brdE (q m : G3) (R : Rk) (s : Int × Int) : Int := if (slotV q m s.1).2 then R.rdErr (slotV q m s.1).1 s.2 else 11
def brd (q m : G3) (R : Rk) (s : Int × Int) : List Int := if (slotV q m s.1).2 then R.rd (slotV q m s.1).1 s.2 else []
theorem brd_byts {q m : G3} {R : Rk} (h : R.bys) (s : Int × Int) : Byts (brd q m R s) := by
  unfold brd; split
  · exact h.rd _ _
  · exact fun n hn => by simp at hn
theorem brd_len {q m : G3} {R : Rk} (h : R.good) (s : Int × Int) : (brd q m R s).length ≤ 64 := by
  unfold brd; split
  · exact h.rd _ _
  · simp
def goodV (q m : G3) (R : Rk) (s : Int × Int) (seq : Int) : List Int × Bool := if brdE q m R s = 0 then (brd q m R s, (headOf (brd q m R s)).1 == seq) else ([], false)
theorem goodV_byts {q m : G3} {R : Rk} (h : R.bys) (s : Int × Int) (seq : Int) : Byts (goodV q m R s seq).1 := by
  unfold goodV; split
  · exact brd_byts h s
  · exact fun n hn => by simp at hn
theorem goodV_len {q m : G3} {R : Rk} (h : R.good) (s : Int × Int) (seq : Int) : (goodV q m R s seq).1.length ≤ 64 := by
  unfold goodV; split
  · exact brd_len h s
  · simp
theorem stripe_good_spec (bb rb : Nat) (q m : G3) (R : Rk) (hby : R.bys) (ds : Slc) (ps : List Nat) (s : Int × Int) (seq : Int) :
    wps g (bnk bb rb q m * rackP rb R ds ps) (stripe_good (ptr bb) s seq) (fun x => pr (x.2 = (goodV q m R s seq).2) * bnk bb rb q m * rackP rb R ds ps * own 1 x.1 (bv (goodV q m R s seq).1)) := by
  unfold stripe_good
  refine wps_fact (Ent.trans (ent_right _ _) rackP_good) fun hg => ?_
  refine wps_alloc fun c => ?_
  refine wps_ld s.1 (by rfl) ?_
  refine wps_ld s.2 (by rfl) ?_
  refine wps_call2 (fun _ => bank_Read_spec bb rb q m R ds ps s.1 s.2) fun x => ?_
  simp only [← star_assoc]
  refine wps_prP fun hx => ?_
  have hx' : x.2 = brdE q m R s := hx
  have hbr : (if (slotV q m s.1).2 = true then R.rd (slotV q m s.1).1 s.2 else []) = brd q m R s := rfl
  rw [hbr]
  by_cases h0 : brdE q m R s = 0
  rotate_left
  · rw [goodV, if_neg h0]
    refine wps_ite (fun _ => wps_pure ?_) (fun h => absurd (by simp [hx', h0]) h)
    refine ent_own0 ?_
    repeat first | (with_reducible refine ent_pick ?_) | (refine ent_prq ?_)
    all_goals first | rfl | trivial
  rw [goodV, if_pos h0]
  refine wps_ite (fun h => absurd h (by simp [hx', h0])) (fun _ => ?_)
  refine wps_bind (sector_Decode_spec (s := x.1) (b := brd q m R s) (Ent.trans (ent_pick1 (A := own 1 x.1 (bv (brd q m R s)))) (own_rsl _ _ _)) (brd_byts hby s) (by have := brd_len (q := q) (m := m) hg s; omega)) fun y => ?_
  simp only [← star_assoc]
  refine wps_prP fun ⟨hy, _⟩ => ?_
  refine wps_alloc fun d => ?_
  refine wps_stA (by simp) (by simp [Value.oneCell']) ?_
  refine wps_regionH ?_
  refine wps_ldI y.1.1 (by rfl) (wps_pure ?_)
  rw [hy]
  repeat first | (with_reducible refine ent_pick ?_) | (refine ent_prq ?_)
  all_goals first | rfl | trivial
def othL (q m : G3) (R : Rk) (lost : Int × Int) (seq : Int) : List (Int × Int) → Option (List (List Int))
  | [] => some []
  | s :: ss => if s = lost then othL q m R lost seq ss else if (goodV q m R s seq).2 = true then (othL q m R lost seq ss).map fun l => (goodV q m R s seq).1 :: l else none
def othV (q m : G3) (R : Rk) (lost : Int × Int) (seq : Int) (l : List (Int × Int)) : List Int × Bool := match othL q m R lost seq l with | none => ([], false) | some ls => ((parL ls).getD [], (parL ls).isSome)
structure OthI (q m : G3) (R : Rk) (lost : Int × Int) (seq : Int) (l : List (Int × Int)) (i : Nat) (st : Slc × Int) (sl : List Slc) (ls : List (List Int)) : Prop where
  hi : st.2 = (i : Int)
  le : i ≤ l.length
  oth : othL q m R lost seq l = (othL q m R lost seq (l.drop i)).map (fun l => ls ++ l)
  hsl : sl.length = ls.length
  lsi : ls.length ≤ i
  len : st.1.len = sl.length
  bs : ∀ b ∈ ls, Byts b ∧ b.length ≤ 64
theorem stripe_others_spec (bb rb : Nat) (q m : G3) (R : Rk) (hby : R.bys) (ds : Slc) (ps : List Nat) (r : Slc) (l : List (Int × Int)) (hl : l.length ≤ 1000) (lost : Int × Int) (seq : Int) {H : HP} (hr : Ent H (rsl 2 r (sv l))) :
    wps g (H * bnk bb rb q m * rackP rb R ds ps) (stripe_others (ptr bb) r lost seq) (fun x => pr (x.2 = (othV q m R lost seq l).2) * H * bnk bb rb q m * rackP rb R ds ps * own 1 x.1 (bv (othV q m R lost seq l).1)) := by
  unfold stripe_others
  refine wps_fact (Ent.trans (ent_right _ _) rackP_good) fun hg => ?_
  refine wps_fact (Ent.trans (ent_left _ _) (Ent.trans (ent_left _ _) (Ent.trans hr (rsl_len _ _ _)))) fun hrl => ?_
  rw [sv_len] at hrl
  refine wps_alloc fun c => ?_
  refine wps_loop (fun st => ex fun i : Nat => ex fun sl : List Slc => ex fun ls : List (List Int) => pr (OthI q m R lost seq l i st sl ls) * H * bnk bb rb q m * rackP rb R ds ps * pc c [.int .i64 lost.1, .int .i64 lost.2] * seqp sl (fun j => ls.getD j []) * own 1 st.1 (sl.map vS)) (fun st => (l.length - st.2).toNat) ?_ fun st => ?_
  · refine ent_ex 0 (ent_ex [] (ent_ex [] (ent_own0 (ent_pers ?_ (seqp_nil _ _)))))
    repeat first | (with_reducible refine ent_pick ?_) | (refine ent_prq ?_)
    all_goals first | trivial | skip
    refine ⟨rfl, by omega, ?_, rfl, by simp, rfl, by simp⟩
    rw [List.drop_zero]
    cases othL q m R lost seq l <;> simp
  refine wps_ex fun i => wps_ex fun sl => wps_ex fun ls => ?_
  refine wps_prP fun ⟨hi, hin, ho, hsl, hlsi, hstl, hbs⟩ => ?_
  refine wps_ite (fun hc => ?_) (fun hc => ?_)
  · have hlt : i < l.length := by have := of_decide_eq_true hc; omega
    have hget : l[i]? = some l[i] := List.getElem?_eq_getElem hlt
    rw [List.drop_eq_getElem_cons hlt, othL] at ho
    generalize hsp : l[i] = sp at *
    refine wps_rdA i sp (Ent.trans (ent_pick1 (A := H)) hr) hi (by simp) (fun o v ho => ?_) ?_
    · have h2 : o < 2 := by have := (List.getElem?_eq_some_iff.1 ho).1; simpa using this
      rw [sv_get hget h2]; exact ho
    refine wps_alloc fun x12 => ?_
    refine wps_stA (by simp) (by simp [Value.oneCell']) ?_
    refine wps_ldA sp (by rfl) ?_
    refine wps_ldA lost (by rfl) ?_
    have heq : eq2 (sp.1, sp.2) (lost.1, lost.2) = decide (sp = lost) := by
      unfold eq2
      by_cases h : sp = lost
      · subst h; simp
      · rw [decide_eq_false h]
        by_cases h1 : sp.1 = lost.1
        · have h2 : ¬ sp.2 = lost.2 := fun h2 => h (Prod.ext h1 h2)
          simp [h2]
        · simp [h1]
    rw [heq]
    by_cases hsl2 : sp = lost
    · rw [if_pos hsl2] at ho
      refine wps_ite (fun _ => wps_pure ?_) (fun h => absurd (decide_eq_true hsl2) h)
      refine ent_prr (by (try dsimp only); rw [range_add1 hi (by omega)]; omega) (ent_ex (i + 1) (ent_ex sl (ent_ex ls ?_)))
      repeat first | (with_reducible refine ent_pick ?_) | (refine ent_prq ?_)
      all_goals first | exact ⟨range_add1 hi (by omega), by omega, ho, hsl, by omega, hstl, hbs⟩ | trivial
    · rw [if_neg hsl2] at ho
      refine wps_ite (fun h => absurd (of_decide_eq_true h) hsl2) (fun _ => ?_)
      refine wps_ldA sp (by rfl) ?_
      refine wps_call2 (fun _ => stripe_good_spec bb rb q m R hby ds ps sp seq) fun x => ?_
      simp only [← star_assoc]
      refine wps_prP fun hx => ?_
      by_cases hgo : (goodV q m R sp seq).2 = true
      rotate_left
      · rw [if_neg hgo] at ho
        have hov : othV q m R lost seq l = ([], false) := by unfold othV; rw [ho]; rfl
        refine wps_ite (fun _ => wps_mapR (wps_pure ?_)) (fun h => absurd (by rw [hx]; simpa using hgo) h)
        show Ent _ (pr (false = _) * _ * _ * _ * _)
        rw [hov]
        refine ent_own0 ?_
        repeat first | (with_reducible refine ent_pick ?_) | (refine ent_prq ?_)
        all_goals first | rfl | trivial
      rw [if_pos hgo] at ho
      refine wps_ite (fun h => absurd h (by rw [hx]; simp [hgo])) (fun _ => ?_)
      refine wps_alloc fun y => ?_
      refine wps_app 1 [vS x.1] rfl (by decide) (rsl_pc rfl) (by simp [Value.oneCell', vS]) (by (try dsimp only); omega) fun t2 ht2 => wps_pure ?_
      have ht3 : t2.len = st.1.len + 1 := ht2
      refine ent_prr (by (try dsimp only); rw [range_add1 hi (by omega)]; omega) (ent_ex (i + 1) (ent_ex (sl ++ [x.1]) (ent_ex (ls ++ [(goodV q m R sp seq).1]) ?_)))
      refine ent_pickS (by simp) ?_
      refine ent_swap (A := own 1 x.1 (bv (goodV q m R sp seq).1)) (B := byt x.1 (goodV q m R sp seq).1) (own_rsl _ _ _) ?_
      refine ent_join (A := seqp sl fun j => ls.getD j []) (B := byt x.1 (goodV q m R sp seq).1) (seqp_snocL hsl) ?_
      repeat first | (with_reducible refine ent_pick ?_) | (refine ent_prq ?_)
      all_goals first | trivial | skip
      refine ⟨range_add1 hi (by omega), by omega, ?_, by simp [hsl], by simp; omega, by simp [ht3, hstl], fun b hb => ?_⟩
      · rw [ho]
        cases othL q m R lost seq (l.drop (i + 1)) <;> simp
      · rcases List.mem_append.1 hb with hb | hb
        · exact hbs b hb
        · obtain rfl : b = (goodV q m R sp seq).1 := by simpa using hb
          exact ⟨goodV_byts hby _ _, goodV_len hg _ _⟩
  · have hie : i = l.length := by
      have hc1 : ¬ (st.2 < ((r.len : Nat) : Int)) := fun h => hc (decide_eq_true h)
      omega
    rw [hie, List.drop_length, othL] at ho
    have hov : othV q m R lost seq l = ((parL ls).getD [], (parL ls).isSome) := by unfold othV; rw [ho]; simp
    refine wps_mapR ?_
    unfold sector_Restore
    refine wps_assoc ?_
    refine wps_bind (sector_Parity_spec (s := st.1) (sl := sl) (ls := ls) (Ent.trans (ent_pick1 (A := own 1 st.1 (sl.map vS))) (own_rsl _ _ _)) (ent_pick1 (A := seqp sl fun j => ls.getD j [])) hsl (by omega) (fun b hb => ⟨(hbs b hb).1, by have := (hbs b hb).2; omega⟩)) fun p => ?_
    simp only [← star_assoc]
    refine wps_prP fun hp => ?_
    refine wps_pure ?_
    rw [hov]
    repeat first | (with_reducible refine ent_pick ?_) | (refine ent_pickS (by rfl) ?_) | (refine ent_prq ?_)
    all_goals first | exact hp | trivial
end Go.Proofs.Ytldmeimebebllaa
namespace Go.Proofs.Ytldmeimebebllaa
open Go.Mo
set_option linter.unusedVariables false
variable {g : Fr} {cv : CV}
theorem slices_Contains_val {H : HP} {s : Slc} {l : List Int} (v : Int) (hs : Ent H (rsl 1 s (zv l))) (hl : l.length ≤ 1000000) : Val g H (slices_Contains_i s v) (decide (v ∈ l)) := by
  unfold slices_Contains_i slices_Index_i
  refine wps_fact (Ent.trans hs (rsl_len _ _ _)) fun hsl => ?_
  have hsl' : l.length = s.len := by simpa [zv] using hsl
  refine wps_bind (R := fun x => pr (decide (x ≥ 0) = decide (v ∈ l)) * H) ?_ fun x => wps_pr fun hx => wps_pure (ent_prr hx (Ent.refl _))
  refine wps_loop (fun st => ex fun i : Nat => pr (st = (i : Int) ∧ i ≤ l.length ∧ v ∉ l.take i) * H) (fun st => (l.length - st).toNat) (ent_ex 0 (ent_prr ⟨rfl, by omega, by simp⟩ (Ent.refl _))) fun st => ?_
  refine wps_ex fun i => wps_pr fun ⟨hi, hin, hno⟩ => ?_
  refine wps_ite (fun hc => ?_) (fun hc => ?_)
  · have hlt : i < l.length := by have := of_decide_eq_true hc; omega
    refine wps_rd i l[i] hs hi (by simp [zv, List.getElem?_eq_getElem hlt]) ?_
    by_cases hv : v = l[i]
    · refine wps_ite (fun _ => wps_mapR (wps_pure (ent_prr ?_ (Ent.refl _)))) (fun h => absurd (by simpa using hv) h)
      rw [decide_eq_true (by omega : st ≥ 0), decide_eq_true]
      rw [hv]; exact List.getElem_mem hlt
    · refine wps_ite (fun h => absurd (by simpa using h) hv) (fun _ => wps_pure ?_)
      refine ent_prr (by rw [range_add1 hi (by omega)]; omega) (ent_ex (i + 1) (ent_prr ⟨range_add1 hi (by omega), by omega, fun hm => ?_⟩ (Ent.refl _)))
      rw [List.take_add_one, List.getElem?_eq_getElem hlt] at hm
      rcases List.mem_append.1 hm with hm | hm
      · exact hno hm
      · exact hv (by simpa using hm)
  · have hie : i = l.length := by
      have hc1 : ¬ (st < ((s.len : Nat) : Int)) := fun h => hc (decide_eq_true h)
      omega
    rw [hie, List.take_length] at hno
    refine wps_mapR (wps_pure (ent_prr ?_ (Ent.refl _)))
    rw [decide_eq_false hno]; rfl
def thereE (q : G3) (R : Rk) (seg : Int) : Int := if ¬ (0 ≤ seg ∧ seg < q.2.2) then 28 else if R.off then 12 else 0
theorem stripe_there_val (bb rb : Nat) (q m : G3) (R : Rk) (ds : Slc) (ps : List Nat) (seg : Int) : Val g (bnk bb rb q m * rackP rb R ds ps) (stripe_there (ptr bb) seg) (thereE q R seg) := by
  unfold stripe_there
  refine wps_val (v := decide (¬ (0 ≤ seg ∧ seg < q.2.2))) ?_ ?_
  · refine wps_ite (fun h => wps_pure (ent_prr ?_ (Ent.refl _))) (fun h => ?_)
    · have := of_decide_eq_true h
      exact (decide_eq_true (by omega)).symm
    · have h' : ¬ seg < 0 := fun h2 => h (decide_eq_true h2)
      refine wps_valH (fun _ => bank_Geo_val bb rb q m) (wps_pure (ent_prr ?_ (Ent.refl _)))
      exact decide_eq_decide.2 (by omega)
  refine wps_ite (fun h => wps_pure (ent_prr ?_ (Ent.refl _))) (fun h => ?_)
  · rw [thereE, if_pos (of_decide_eq_true h)]
  · have h' : ¬ ¬ (0 ≤ seg ∧ seg < q.2.2) := fun h2 => h (decide_eq_true h2)
    refine wps_val2 (fun _ => bank_Off_val bb rb q m R ds ps) ?_
    rw [thereE, if_neg h']
    exact wps_ite (fun ho => wps_pure (ent_prr (by rw [if_pos ho]) (Ent.refl _))) (fun ho => wps_pure (ent_prr (by rw [if_neg ho]) (Ent.refl _)))
def whL (q m : G3) (R : Rk) (bad : List Int) : List (Int × Int) → Int → Option Int
  | [], s => some s
  | sp :: ss, s => if sp.1 ∈ bad then whL q m R bad ss s else if brdE q m R sp ≠ 0 ∨ (headOf (brd q m R sp)).1 = 0 ∨ (s ≠ 0 ∧ (headOf (brd q m R sp)).1 ≠ s) then none else whL q m R bad ss (headOf (brd q m R sp)).1
def allS (q : G3) (seg : Int) (r : Nat) : List (Int × Int) := ((List.range q.2.1.toNat).drop r).flatMap (spotsL q seg)
theorem allS_step {q : G3} {seg : Int} {r : Nat} (h : r < q.2.1.toNat) : allS q seg r = spotsL q seg r ++ allS q seg (r + 1) := by
  unfold allS
  rw [List.drop_eq_getElem_cons (by simpa using h)]
  simp
theorem allS_end {q : G3} {seg : Int} : allS q seg q.2.1.toNat = [] := by
  unfold allS
  rw [List.drop_of_length_le (by simp)]; rfl
def badI (q m : G3) (R : Rk) : List Int := (badL q m R).map fun i : Nat => (i : Int)
def sWhole (q m : G3) (R : Rk) (seg : Int) : Int × Bool × Int :=
  if thereE q R seg ≠ 0 then (0, false, thereE q R seg) else if 1 < (badL q m R).length then (0, false, 0)
  else match whL q m R (badI q m R) (allS q seg 0) 0 with | some s => (s, true, 0) | none => (0, false, 0)
theorem stripe_Whole_spec (hcv : RowsOk cv) (bb rb : Nat) (q m : G3) (hq : RightB q = true) (R : Rk) (hby : R.bys) (ds : Slc) (ps : List Nat) (seg : Int) :
    wps g (bnk bb rb q m * rackP rb R ds ps) (stripe_Whole cv (ptr bb) seg) (fun x => pr (x = sWhole q m R seg) * bnk bb rb q m * rackP rb R ds ps) := by
  unfold stripe_Whole
  have hb := RightB.bnd hq
  have b1 := hb.d3
  have b2 := hb.d16
  have b3 := hb.r1
  have b4 := hb.r4
  refine wps_fact (Ent.trans (ent_right _ _) rackP_good) fun hg => ?_
  refine wps_alloc fun x2 => ?_
  refine wps_alloc fun x4 => ?_
  refine wps_alloc fun x5 => ?_
  refine wps_alloc fun x6 => ?_
  refine wps_ld (ptr bb) (by rfl) ?_
  refine wps_val2 (fun _ => stripe_there_val bb rb q m R ds ps seg) ?_
  by_cases ht : thereE q R seg = 0
  rotate_left
  · have hsw : sWhole q m R seg = (0, false, thereE q R seg) := if_pos ht
    rw [hsw]
    refine wps_ite (fun _ => ?_) (fun h => absurd (by simpa using ht) h)
    refine wps_st (by simp) ?_
    refine wps_st (by simp) ?_
    refine wps_st (by simp) ?_
    refine wps_ld 0 (by rfl) ?_
    refine wps_ld false (by rfl) ?_
    refine wps_ld (thereE q R seg) (by rfl) (wps_pure ?_)
    repeat first | (with_reducible refine ent_pick ?_) | (refine ent_prq ?_)
    all_goals first | rfl | trivial
  refine wps_ite (fun h => absurd h (by simp [ht])) (fun _ => ?_)
  have hseg : 0 ≤ seg ∧ seg < q.2.2 := by
    unfold thereE at ht
    split at ht
    · cases ht
    · rename_i h; exact Classical.not_not.1 h
  refine wps_ld (ptr bb) (by rfl) ?_
  refine wps_call2 (fun _ => bank_Bad_spec bb rb q m R ds ps b2) fun bd => ?_
  simp only [← star_assoc]
  refine wps_fact (Ent.trans (ent_pick1 (A := own 1 bd (iv (badL q m R)))) (own_len _ _ _)) fun ⟨hbl, _⟩ => ?_
  have hbl' : (badL q m R).length = bd.len := by simpa [iv] using hbl
  refine wps_alloc fun x8 => ?_
  refine wps_st (by simp) ?_
  refine wps_ld bd (by rfl) ?_
  by_cases hbad : 1 < (badL q m R).length
  · have hsw : sWhole q m R seg = (0, false, 0) := by unfold sWhole; rw [if_neg (by simp [ht]), if_pos hbad]
    rw [hsw]
    refine wps_ite (fun _ => ?_) (fun h => absurd (by simp; omega) h)
    refine wps_st (by simp) ?_
    refine wps_st (by simp) ?_
    refine wps_st (by simp) ?_
    refine wps_ld 0 (by rfl) ?_
    refine wps_ld false (by rfl) ?_
    refine wps_ld 0 (by rfl) (wps_pure ?_)
    repeat first | (with_reducible refine ent_pick ?_) | (refine ent_prq ?_)
    all_goals first | rfl | trivial
  have hsw : sWhole q m R seg = match whL q m R (badI q m R) (allS q seg 0) 0 with | some s => (s, true, 0) | none => (0, false, 0) := by unfold sWhole; rw [if_neg (by simp [ht]), if_neg hbad]
  rw [hsw]
  refine wps_ite (fun h => absurd h (by simp; omega)) (fun _ => ?_)
  refine wps_alloc fun x9 => ?_
  refine wps_st (by simp) ?_
  refine wps_ld (ptr bb) (by rfl) ?_
  refine wps_valH (fun _ => bank_Geo_val bb rb q m) ?_
  refine wps_bind (stripe_rows_spec q seg) fun v => ?_
  refine wps_ex fun ra => wps_ex fun rc => ?_
  rw [star_assoc, star_assoc]
  refine wps_pr fun hv => ?_
  subst hv
  rw [iv_zv]
  have hbi : badI q m R = (badL q m R).map fun i : Nat => (i : Int) := rfl
  rw [← hbi]
  refine wps_rangeX (F := emp)
    (fun i => ex fun s : Int => pr (whL q m R (badI q m R) (allS q seg 0) 0 = whL q m R (badI q m R) (allS q seg i) s) * bnk bb rb q m * rackP rb R ds ps * pc x2 [.pointer (ptr bb)] * pc x4 [.int .i64 0] * pc x5 [.bool false] * pc x6 [.int .i64 0] * pc x8 [vS bd] * pc x9 [.int .i64 s] * own 1 bd (zv (badI q m R)))
    (fun j => match j with | .ret => pr (whL q m R (badI q m R) (allS q seg 0) 0 = none) * bnk bb rb q m * rackP rb R ds ps * pc x4 [.int .i64 0] * pc x5 [.bool false] * pc x6 [.int .i64 0] | .exit _ => pr False)
    (fun i x t' => pr (t' = x.2) * (rowsA ra rc q seg * (rowsX q seg i x * ex fun s : Int => pr (whL q m R (badI q m R) (allS q seg 0) 0 = whL q m R (badI q m R) (allS q seg i) s) * bnk bb rb q m * rackP rb R ds ps * pc x2 [.pointer (ptr bb)] * pc x4 [.int .i64 0] * pc x5 [.bool false] * pc x6 [.int .i64 0] * pc x8 [vS bd] * pc x9 [.int .i64 s] * own 1 bd (zv (badI q m R)))))
    (rows_iter hcv ra rc q seg ⟨hq, hseg.1, hseg.2⟩) ?_ ?_ ?_ ?_ ?_ ?_
  · refine Ent.trans ?_ (Ent.of_eq (emp_star _).symm)
    refine ent_exr 0 ?_
    simp only [← star_assoc]
    refine ent_pick (ent_pickC (by rfl) (ent_pickC (by rfl) ?_))
    repeat first | (with_reducible exact ent_drop) | (with_reducible refine ent_pick ?_) | (refine ent_prx ?_ ?_; rotate_left)
    all_goals first | rfl | trivial
  · intro i x hx g
    exact wps_pure (ent_prr rfl (Ent.refl _))
  · intro i x hx t' g
    refine wps_pr fun ht => ?_
    subst ht
    refine wps_exP fun s0 => ?_
    simp only [← star_assoc]
    refine wps_prP fun hR => ?_
    refine wps_prP fun hxi => ?_
    refine wps_fact (Ent.trans (ent_pick1 (A := own 2 x.2 (sv (spotsL q seg i)))) (own_len _ _ _)) fun ⟨hspl, _⟩ => ?_
    have hspl2 := spotsL_len q seg i b1
    rw [sv_len] at hspl
    have hbil : (badI q m R).length ≤ 16 := by rw [hbi]; simp only [List.length_map]; exact badL_len q m R b2
    refine wps_loop (fun st => ex fun j : Nat => ex fun s1 : Int => pr (st = (j : Int) ∧ j ≤ (spotsL q seg i).length ∧ whL q m R (badI q m R) (allS q seg 0) 0 = whL q m R (badI q m R) ((spotsL q seg i).drop j ++ allS q seg (i + 1)) s1) * rowsA ra rc q seg * own 2 x.2 (sv (spotsL q seg i)) * bnk bb rb q m * rackP rb R ds ps * pc x2 [.pointer (ptr bb)] * pc x4 [.int .i64 0] * pc x5 [.bool false] * pc x6 [.int .i64 0] * pc x8 [vS bd] * pc x9 [.int .i64 s1] * own 1 bd (zv (badI q m R))) (fun st => ((spotsL q seg i).length - st).toNat) ?_ fun st => ?_
    · refine ent_ex 0 (ent_ex s0 ?_)
      repeat first | (with_reducible refine ent_pick ?_) | (refine ent_prq ?_)
      all_goals first | trivial | skip
      refine ⟨rfl, by omega, ?_⟩
      rw [List.drop_zero, ← allS_step (q := q) (seg := seg) (r := i) hx]
      exact hR
    refine wps_ex fun j => wps_ex fun s1 => wps_prP fun ⟨hj, hjn, hR2⟩ => ?_
    refine wps_ite (fun hc => ?_) (fun hc => ?_)
    rotate_left
    · have hje : j = (spotsL q seg i).length := by
        have hc1 : ¬ (st < ((x.2.len : Nat) : Int)) := fun h => hc (decide_eq_true h)
        omega
      refine wps_mapR (wps_pure ?_)
      show Ent _ (rowsA ra rc q seg * ex _)
      refine ent_exr s1 ?_
      simp only [← star_assoc]
      rw [hje, List.drop_length, List.nil_append] at hR2
      refine ent_pick (ent_pick (ent_pick (ent_pick (ent_pick (ent_pick (ent_pick (ent_pick (ent_pick (ent_prx hR2 ?_)))))))))
      repeat with_reducible exact ent_drop
    have hjl : j < (spotsL q seg i).length := by have := of_decide_eq_true hc; omega
    have hget : (spotsL q seg i)[j]? = some (spotsL q seg i)[j] := List.getElem?_eq_getElem hjl
    rw [List.drop_eq_getElem_cons hjl, List.cons_append, whL] at hR2
    generalize hsp : (spotsL q seg i)[j] = sp at *
    refine wps_rdA j sp (Ent.trans (ent_pick1 (A := own 2 x.2 (sv (spotsL q seg i)))) (own_rsl _ _ _)) hj (by simp) (fun o v ho => ?_) ?_
    · have h2 : o < 2 := by have := (List.getElem?_eq_some_iff.1 ho).1; simpa using this
      rw [sv_get hget h2]; exact ho
    refine wps_alloc fun x13 => ?_
    refine wps_stA (by simp) (by simp [Value.oneCell']) ?_
    refine wps_ld bd (by rfl) ?_
    refine wps_ld sp.1 (by rfl) ?_
    refine wps_val (slices_Contains_val (l := badI q m R) sp.1 (Ent.trans (ent_pick1 (A := own 1 bd (zv (badI q m R)))) (own_rsl _ _ _)) (by omega)) ?_
    by_cases hm : sp.1 ∈ badI q m R
    · rw [if_pos hm] at hR2
      refine wps_ite (fun _ => wps_pure ?_) (fun h => absurd (decide_eq_true hm) h)
      refine ent_prr (by rw [range_add1 hj (by omega)]; omega) (ent_ex (j + 1) (ent_ex s1 ?_))
      repeat first | (with_reducible refine ent_pick ?_) | (refine ent_prq ?_)
      all_goals first | exact ⟨range_add1 hj (by omega), by omega, hR2⟩ | trivial
    rw [if_neg hm] at hR2
    refine wps_ite (fun h => absurd (of_decide_eq_true h) hm) (fun _ => ?_)
    refine wps_ld (ptr bb) (by rfl) ?_
    refine wps_ld sp.1 (by rfl) ?_
    refine wps_ld sp.2 (by rfl) ?_
    refine wps_call2 (fun _ => bank_Read_spec bb rb q m R ds ps sp.1 sp.2) fun y => ?_
    simp only [← star_assoc]
    refine wps_prP fun hy => ?_
    have hy' : y.2 = brdE q m R sp := hy
    have hbr : (if (slotV q m sp.1).2 = true then R.rd (slotV q m sp.1).1 sp.2 else []) = brd q m R sp := rfl
    rw [hbr]
    refine wps_bind (sector_Decode_spec (s := y.1) (b := brd q m R sp) (Ent.trans (ent_pick1 (A := own 1 y.1 (bv (brd q m R sp)))) (own_rsl _ _ _)) (brd_byts hby sp) (by have := brd_len (q := q) (m := m) hg sp; omega)) fun z => ?_
    simp only [← star_assoc]
    refine wps_prP fun ⟨hz, _⟩ => ?_
    rw [hz]
    generalize hh : headOf (brd q m R sp) = hd at *
    refine wps_alloc fun x16 => ?_
    refine wps_stA (by simp) (by simp [Value.oneCell']) ?_
    rw [hy']
    refine wps_val (v := decide (brdE q m R sp ≠ 0 ∨ hd.1 = 0)) (wps_ite (fun h => wps_pure (ent_prr ?_ (Ent.refl _))) (fun h => wps_ld hd.1 (by rfl) (wps_pure (ent_prr ?_ (Ent.refl _))))) ?_
    · exact (decide_eq_true (.inl (by simpa using h))).symm
    · have h' : brdE q m R sp = 0 := by simpa using h
      by_cases he : hd.1 = 0 <;> simp [h', he]
    refine wps_val (v := decide (brdE q m R sp ≠ 0 ∨ hd.1 = 0 ∨ (s1 ≠ 0 ∧ hd.1 ≠ s1))) ?_ ?_
    · refine wps_ite (fun h => wps_pure (ent_prr ?_ (Ent.refl _))) (fun h => ?_)
      · have := of_decide_eq_true h
        exact (decide_eq_true (this.elim .inl fun h => .inr (.inl h))).symm
      · have h' : ¬ (brdE q m R sp ≠ 0 ∨ hd.1 = 0) := fun h2 => h (decide_eq_true h2)
        refine wps_ld s1 (by rfl) ?_
        refine wps_val (v := decide (s1 ≠ 0 ∧ hd.1 ≠ s1)) ?_ (wps_pure (ent_prr ?_ (Ent.refl _)))
        · refine wps_ite (fun h1 => ?_) (fun h1 => wps_pure (ent_prr ?_ (Ent.refl _)))
          · refine wps_ld hd.1 (by rfl) ?_
            refine wps_ld s1 (by rfl) (wps_pure (ent_prr ?_ (Ent.refl _)))
            have h1' : s1 ≠ 0 := by simpa using h1
            by_cases he : hd.1 = s1 <;> simp [h1', he]
          · have h1' : s1 = 0 := by simpa using h1
            simp [h1']
        · exact decide_eq_decide.2 ⟨fun h => .inr (.inr h), fun h => h.elim (fun h => absurd (.inl h) h') fun h => h.elim (fun h => absurd (.inr h) h') id⟩
    by_cases hcond : brdE q m R sp ≠ 0 ∨ hd.1 = 0 ∨ (s1 ≠ 0 ∧ hd.1 ≠ s1)
    · rw [if_pos hcond] at hR2
      refine wps_ite (fun _ => ?_) (fun h => absurd (decide_eq_true hcond) h)
      refine wps_st (by simp) ?_
      refine wps_st (by simp) ?_
      refine wps_st (by simp) (wps_mapR (wps_pure ?_))
      show Ent _ (rowsA ra rc q seg * (_ * _ * _ * _ * _ * _))
      simp only [← star_assoc]
      refine ent_pickC (by rfl) (ent_pickC (by rfl) (ent_pickC (by rfl) (ent_pick (ent_pick (ent_prx hR2 ?_)))))
      repeat with_reducible exact ent_drop
    · rw [if_neg hcond] at hR2
      refine wps_ite (fun h => absurd (of_decide_eq_true h) hcond) (fun _ => ?_)
      refine wps_ld hd.1 (by rfl) ?_
      refine wps_st (by simp) (wps_pure ?_)
      refine ent_prr (by rw [range_add1 hj (by omega)]; omega) (ent_ex (j + 1) (ent_ex hd.1 ?_))
      repeat first | (with_reducible refine ent_pick ?_) | (refine ent_pickC (by rfl) ?_) | (refine ent_prq ?_)
      all_goals first | exact ⟨range_add1 hj (by omega), by omega, hR2⟩ | trivial
  · intro D
    refine wps_exP fun s => ?_
    simp only [← star_assoc]
    refine wps_prP fun hR => ?_
    rw [allS_end, whL] at hR
    rw [hR]
    refine wps_ld s (by rfl) ?_
    refine wps_st (by simp) ?_
    refine wps_st (by simp) ?_
    refine wps_st (by simp) ?_
    refine wps_take ?_
    refine wps_ld s (by rfl) ?_
    refine wps_ld true (by rfl) ?_
    refine wps_ld 0 (by rfl) (wps_pure ?_)
    repeat first | (with_reducible refine ent_pick ?_) | (refine ent_prq ?_)
    all_goals first | rfl | trivial
  · intro D
    simp only [← star_assoc]
    refine wps_prP fun hR => ?_
    rw [hR]
    refine wps_take ?_
    refine wps_ld 0 (by rfl) ?_
    refine wps_ld false (by rfl) ?_
    refine wps_ld 0 (by rfl) (wps_pure ?_)
    repeat first | (with_reducible refine ent_pick ?_) | (refine ent_prq ?_)
    all_goals first | rfl | trivial
  · intro D id
    exact wps_false (fun o ho => by
      have := ent_right _ _ o (ent_left _ _ o ho)
      exact ent_right _ _ o this)
end Go.Proofs.Ytldmeimebebllaa
namespace Go.Proofs.Ytldmeimebebllaa
open Go.Mo
set_option linter.unusedVariables false
variable {g : Fr} {cv : CV}
def takeP (b : List Nat) : HP := match b with | [] => emp | [D] => po D (.deferred (some [])) | _ => pr False
theorem wps_takeB {α : Type} {H : HP} {b : List Nat} {m : M α} {Q : α → HP} (h : wps g H m Q) : wps g (H * takeP b) (takesM b m) Q := by
  match b with
  | [] => exact wps_pre (ent_left _ _) h
  | [D] => exact wps_take (D := D) (H := H * po D (.deferred (some []))) h
  | _ :: _ :: _ => exact wps_false (ent_right _ _)
def sRead (q m : G3) (R : Rk) (seg k seq : Int) : (Int × Int × List Int) × Int :=
  if blkOkB q seg k = false then ((0, 0, []), 28) else if R.off = true then ((0, 0, []), 12)
  else
    let x := if (goodV q m R (blkSpot q seg k) seq).2 = true then goodV q m R (blkSpot q seg k) seq else othV q m R (blkSpot q seg k) seq (spotsL q seg (k / (q.1 - 1)).toNat)
    if x.2 = true then (((headOf x.1).2.1, (headOf x.1).2.2, payOf x.1), 0) else ((0, 0, []), 14)
theorem parL_byts {ls : List (List Int)} (h : ∀ b ∈ ls, Byts b) : Byts ((parL ls).getD []) := by
  have hx : ∀ (a b : List Int), Byts a → Byts b → Byts (zx a b) := by
    intro a
    induction a with
    | nil => intro b _ _; rw [nil_zx]; exact fun n hn => by simp at hn
    | cons x xs ih =>
      intro b ha hb
      cases b with
      | nil => exact ha
      | cons y ys =>
        intro n hn
        simp only [zx, List.mem_cons] at hn
        rcases hn with rfl | hn
        · unfold bXor
          have hw : ∀ v : Int, 0 ≤ IntKind.u8.wrap v ∧ IntKind.u8.wrap v < 256 := fun v => by
            simp [IntKind.wrap, IntKind.bits, IntKind.signed]; omega
          exact hw _
        · exact ih ys (fun n hn => ha n (by simp [hn])) (fun n hn => hb n (by simp [hn])) n hn
  have hs : ∀ (ls : List (List Int)) (a : List Int), Byts a → (∀ b ∈ ls, Byts b) → Byts (ls.foldl (fun acc b => xorB acc (b.drop 4)) a) := by
    intro ls
    induction ls with
    | nil => intro a ha _; exact ha
    | cons b ls ih =>
      intro a ha hb
      rw [List.foldl_cons]
      refine ih _ ?_ (fun c hc => hb c (by simp [hc]))
      unfold xorB
      have hb4 := (hb b (by simp)).drop 4
      split
      · exact hx _ _ hb4 ha
      · exact hx _ _ ha hb4
  unfold parL
  split
  · rename_i hok
    simp only [Option.getD_some]
    refine Byts.app ?_ (hs ls [] (fun n hn => by simp at hn) h)
    cases ls with
    | nil => exact fun n hn => by simp at hn
    | cons a l => exact (h a (by simp)).take 4
  · exact fun n hn => by simp at hn
theorem parL_len (ls : List (List Int)) : ((parL ls).getD []).length ≤ 64 := by
  unfold parL
  split
  · rename_i hpo
    have h1 := parSum_len (ls := ls) ls.length (fun i' _ hi' => by
      rw [List.getElem?_eq_getElem hi']; exact (hpo.2 _ (List.getElem_mem hi')).1) (Nat.le_refl _)
    rw [List.take_length] at h1
    simp only [Option.getD_some, List.length_append, List.length_take, h1]
    split <;> omega
  · simp
theorem othL_byts {q m : G3} {R : Rk} (h : R.bys) (lost : Int × Int) (seq : Int) : ∀ (l : List (Int × Int)) (ls : List (List Int)), othL q m R lost seq l = some ls → ∀ b ∈ ls, Byts b
  | [], ls, ho, b, hb => by simp [othL] at ho; subst ho; simp at hb
  | s :: ss, ls, ho, b, hb => by
    rw [othL] at ho
    split at ho
    · exact othL_byts h lost seq ss ls ho b hb
    · split at ho
      · obtain ⟨l', h1, rfl⟩ := Option.map_eq_some_iff.1 ho
        rcases List.mem_cons.1 hb with rfl | hb
        · exact goodV_byts h _ _
        · exact othL_byts h lost seq ss l' h1 b hb
      · cases ho
theorem othV_byts {q m : G3} {R : Rk} (h : R.bys) (lost : Int × Int) (seq : Int) (l : List (Int × Int)) : Byts (othV q m R lost seq l).1 ∧ (othV q m R lost seq l).1.length ≤ 64 := by
  unfold othV
  cases ho : othL q m R lost seq l with
  | none => exact ⟨fun n hn => by simp at hn, by simp⟩
  | some ls => exact ⟨parL_byts (othL_byts h lost seq l ls ho), parL_len ls⟩
theorem stripe_Read_spec (hcv : RowsOk cv) (bb rb : Nat) (q m : G3) (hq : RightB q = true) (R : Rk) (hby : R.bys) (ds : Slc) (ps : List Nat) (seg k seq : Int) :
    wps g (bnk bb rb q m * rackP rb R ds ps) (stripe_Read cv (ptr bb) seg k seq) (fun x => pr (x.2 = (sRead q m R seg k seq).2 ∧ x.1.1 = (sRead q m R seg k seq).1.1 ∧ x.1.2.1 = (sRead q m R seg k seq).1.2.1) * bnk bb rb q m * rackP rb R ds ps * own 1 x.1.2.2 (bv (sRead q m R seg k seq).1.2.2)) := by
  unfold stripe_Read
  have hb := RightB.bnd hq
  have b1 := hb.d3
  have b2 := hb.d16
  have b3 := hb.r1
  have b4 := hb.r4
  have hpl := hb.places.2
  refine wps_fact (Ent.trans (ent_right _ _) rackP_good) fun hg => ?_
  refine wps_alloc fun x4 => ?_
  refine wps_alloc fun x6 => ?_
  refine wps_alloc fun x7 => ?_
  refine wps_alloc fun x8 => ?_
  refine wps_ld (ptr bb) (by rfl) ?_
  refine wps_valH (fun _ => bank_Geo_val bb rb q m) ?_
  refine wps_alloc fun x10 => ?_
  refine wps_stA (by simp) (by simp [Value.oneCell']) ?_
  refine wps_ldG q.1 q.2.1 q.2.2 (by rfl) ?_
  refine wps_ld k (by rfl) ?_
  refine wps_val (geo_Block_val q seg k) ?_
  refine wps_alloc fun x11 => ?_
  refine wps_alloc fun x12 => ?_
  by_cases hbo : blkOkB q seg k = true
  rotate_left
  · have hsr : sRead q m R seg k seq = ((0, 0, []), 28) := if_pos (by simpa using hbo)
    rw [hsr, if_neg hbo]
    refine wps_stA (by simp) (by simp [Value.oneCell']) ?_
    refine wps_st (by simp) ?_
    refine wps_ld false (by rfl) ?_
    refine wps_ite (fun _ => ?_) (fun h => absurd rfl h)
    refine wps_stA (by simp) (by simp [Value.oneCell']) ?_
    refine wps_ldA (enc := fun y : (Int × Int × Slc) => [(.int .i64 y.1), (.int .i64 y.2.1), (.slice y.2.2.base y.2.2.len y.2.2.cap)]) (0, 0, ⟨none, 0, 0⟩) (by rfl) (wps_pure ?_)
    refine ent_own0 ?_
    repeat first | (with_reducible refine ent_pick ?_) | (refine ent_prq ?_)
    all_goals first | exact ⟨rfl, rfl, rfl⟩ | trivial
  rw [if_pos hbo]
  have hbo' := hbo
  simp only [blkOkB, hq, Bool.true_and, Bool.and_eq_true, decide_eq_true_eq] at hbo'
  obtain ⟨hk, hse⟩ := hbo'
  refine wps_stA (by simp) (by simp [Value.oneCell']) ?_
  refine wps_st (by simp) ?_
  refine wps_ld true (by rfl) ?_
  refine wps_ite (fun h => absurd h (by decide)) (fun _ => ?_)
  refine wps_ld (ptr bb) (by rfl) ?_
  refine wps_val2 (fun _ => bank_Off_val bb rb q m R ds ps) ?_
  by_cases hoff : R.off = true
  · have hsr : sRead q m R seg k seq = ((0, 0, []), 12) := by unfold sRead; rw [if_neg (by simp [hbo]), if_pos hoff]
    rw [hsr]
    refine wps_ite (fun _ => ?_) (fun h => absurd hoff h)
    refine wps_stA (by simp) (by simp [Value.oneCell']) ?_
    refine wps_ldA (enc := fun y : (Int × Int × Slc) => [(.int .i64 y.1), (.int .i64 y.2.1), (.slice y.2.2.base y.2.2.len y.2.2.cap)]) (0, 0, ⟨none, 0, 0⟩) (by rfl) (wps_pure ?_)
    refine ent_own0 ?_
    repeat first | (with_reducible refine ent_pick ?_) | (refine ent_prq ?_)
    all_goals first | exact ⟨rfl, rfl, rfl⟩ | trivial
  refine wps_ite (fun h => absurd h hoff) (fun _ => ?_)
  refine wps_ld (ptr bb) (by rfl) ?_
  refine wps_ldA (blkSpot q seg k) (by rfl) ?_
  refine wps_ld seq (by rfl) ?_
  refine wps_call2 (fun _ => stripe_good_spec bb rb q m R hby ds ps (blkSpot q seg k) seq) fun x => ?_
  simp only [← star_assoc]
  refine wps_prP fun hx => ?_
  generalize hsp : blkSpot q seg k = sp at *
  refine wps_alloc fun x13 => ?_
  refine wps_st (by simp) ?_
  refine wps_st (by simp) ?_
  refine wps_ld x.2 (by rfl) ?_
  generalize hfv : (if (goodV q m R sp seq).2 = true then goodV q m R sp seq else othV q m R sp seq (spotsL q seg (k / (q.1 - 1)).toNat)) = fv
  have hsr : sRead q m R seg k seq = if fv.2 = true then (((headOf fv.1).2.1, (headOf fv.1).2.2, payOf fv.1), 0) else ((0, 0, []), 14) := by
    unfold sRead; rw [if_neg (by simp [hbo]), if_neg hoff, hsp, hfv]
  have hfb : Byts fv.1 ∧ fv.1.length ≤ 64 := by
    rw [← hfv]; split
    · exact ⟨goodV_byts hby _ _, goodV_len hg _ _⟩
    · exact othV_byts hby _ _ _
  refine wps_bindS (R := fun b => (ex fun z : Slc => bnk bb rb q m * rackP rb R ds ps * pc x8 [.int .i64 0, .int .i64 0, .slice none 0 0] * pc x12 [.bool fv.2] * pc x13 [vS z] * own 1 z (bv fv.1)) * takeP b) ?_ fun b => ?_
  · refine wps_ite (fun hgo => ?_) (fun hgo => ?_)
    · have hgo' : ¬ (goodV q m R sp seq).2 = true := by rw [← hx]; simpa using hgo
      rw [if_neg hgo'] at hfv
      refine wps_ldG q.1 q.2.1 q.2.2 (by rfl) ?_
      refine wps_bind (stripe_rows_spec q seg) fun v => ?_
      refine wps_ex fun ra => wps_ex fun rc => ?_
      rw [star_assoc, star_assoc]
      refine wps_pr fun hv => ?_
      subst hv
      have hkr := row_of_k hq hk
      refine wps_rangeX (F := emp)
        (fun i => ex fun z : Slc => ex fun f : List Int × Bool => pr ((k / (q.1 - 1)).toNat < i → f = fv) * bnk bb rb q m * rackP rb R ds ps * pc x4 [.pointer (ptr bb)] * pc x6 [.int .i64 k] * pc x7 [.int .i64 seq] * pc x8 [.int .i64 0, .int .i64 0, .slice none 0 0] * pc x10 [.int .i64 q.1, .int .i64 q.2.1, .int .i64 q.2.2] * pc x11 [.int .i64 sp.1, .int .i64 sp.2] * pc x12 [.bool f.2] * pc x13 [vS z] * own 1 z (bv f.1))
        (fun j => pr False)
        (fun i x t' => pr (t' = x) * (rowsA ra rc q seg * (rowsX q seg i x * ex fun z : Slc => ex fun f : List Int × Bool => pr ((k / (q.1 - 1)).toNat < i → f = fv) * bnk bb rb q m * rackP rb R ds ps * pc x4 [.pointer (ptr bb)] * pc x6 [.int .i64 k] * pc x7 [.int .i64 seq] * pc x8 [.int .i64 0, .int .i64 0, .slice none 0 0] * pc x10 [.int .i64 q.1, .int .i64 q.2.1, .int .i64 q.2.2] * pc x11 [.int .i64 sp.1, .int .i64 sp.2] * pc x12 [.bool f.2] * pc x13 [vS z] * own 1 z (bv f.1))))
        (rows_iter hcv ra rc q seg ⟨hq, hse.1, by omega⟩) ?_ ?_ ?_ ?_ ?_ ?_
      · refine Ent.trans ?_ (Ent.of_eq (emp_star _).symm)
        refine ent_exr x.1 (ent_exr (goodV q m R sp seq) ?_)
        simp only [← star_assoc]
        rw [hx]
        refine ent_pick (ent_pickC (by rfl) (ent_pickC (by rfl) (ent_pickC (by rfl) (ent_pickC (by rfl) (ent_pick (ent_pick (ent_pick (ent_pick (ent_pick (ent_pick (ent_prx (fun h => by omega) ?_)))))))))))
        repeat with_reducible exact ent_drop
      · intro i x hx g
        exact wps_pure (ent_prr rfl (Ent.refl _))
      · intro i y hy t' g
        refine wps_pr fun ht => ?_
        subst ht
        refine wps_exP fun z => wps_exP fun f => ?_
        simp only [← star_assoc]
        refine wps_prP fun hf => ?_
        refine wps_prP fun hyi => ?_
        refine wps_ld k (by rfl) ?_
        refine wps_ld q.1 (by rfl) ?_
        have e0 : w64 (q.1 - 1) = q.1 - 1 := w64_id (by omega) (by omega)
        rw [e0]
        refine wps_assert (by omega) ?_
        have e1 : w64 (Int.tdiv k (q.1 - 1)) = k / (q.1 - 1) := by rw [Int.tdiv_eq_ediv_of_nonneg hk.1, w64_id] <;> omega
        rw [e1, hyi]
        by_cases hik : (i : Int) = k / (q.1 - 1)
        · have hin : (k / (q.1 - 1)).toNat = i := by omega
          rw [hin] at hfv
          have hspl2 := spotsL_len q seg i b1
          refine wps_ite (fun _ => ?_) (fun h => absurd (by simpa using hik) h)
          refine wps_ld (ptr bb) (by rfl) ?_
          refine wps_ldA sp (by rfl) ?_
          refine wps_ld seq (by rfl) ?_
          refine wps_call3 (fun _ => stripe_others_spec bb rb q m R hby ds ps t'.2 (spotsL q seg i) (by omega) sp seq (H := own 2 t'.2 (sv (spotsL q seg i))) (own_rsl _ _ _)) fun y => ?_
          simp only [← star_assoc]
          refine wps_prP fun hy => ?_
          rw [hfv] at hy ⊢
          refine wps_st (by simp) ?_
          refine wps_st (by simp) (wps_pure ?_)
          show Ent _ (rowsA ra rc q seg * ex _)
          refine ent_exr y.1 (ent_exr fv ?_)
          simp only [← star_assoc]
          rw [hy]
          refine ent_pick (ent_pickC (by rfl) (ent_pickC (by rfl) (ent_pick (ent_pick (ent_pick (ent_pick (ent_pick (ent_pick (ent_pick (ent_pick (ent_prx (by simp) ?_)))))))))))
          repeat with_reducible exact ent_drop
        · refine wps_ite (fun h => absurd (by simpa using h) hik) (fun _ => wps_pure ?_)
          show Ent _ (rowsA ra rc q seg * ex _)
          refine ent_exr z (ent_exr f ?_)
          simp only [← star_assoc]
          refine ent_pick (ent_pick (ent_pick (ent_pick (ent_pick (ent_pick (ent_pick (ent_pick (ent_pick (ent_pick (ent_pick (ent_prx (fun h => hf (by omega)) ?_)))))))))))
          repeat with_reducible exact ent_drop
      · intro D
        refine wps_exP fun z => wps_exP fun f => ?_
        simp only [← star_assoc]
        refine wps_prP fun hf => ?_
        obtain rfl := hf (by omega)
        refine wps_pure ?_
        show Ent _ ((ex fun z : Slc => _) * takeP [D])
        refine Ent.trans ?_ (Ent.starl (ent_ex z (Ent.refl _)))
        show Ent _ (_ * po D _)
        repeat first | (with_reducible exact ent_drop) | (with_reducible refine ent_pick ?_)
      · intro D
        exact wps_false (fun o ho => by
          have := ent_right _ _ o (ent_left _ _ o ho)
          exact ent_right _ _ o this)
      · intro D id
        exact wps_false (fun o ho => by
          have := ent_right _ _ o (ent_left _ _ o ho)
          exact ent_right _ _ o this)
    · have hgo' : (goodV q m R sp seq).2 = true := by rw [← hx]; simpa using hgo
      rw [if_pos hgo'] at hfv
      subst hfv
      refine wps_pure ?_
      show Ent _ ((ex fun z : Slc => _) * takeP [])
      refine Ent.trans ?_ (Ent.of_eq (star_emp _).symm)
      refine ent_ex x.1 ?_
      refine ent_pick (ent_pickC (by rfl) (ent_pickC (by rw [← hx]; rfl) ?_))
      repeat first | (with_reducible exact ent_drop) | (with_reducible refine ent_pick ?_)
  · refine wps_exl fun z => ?_
    refine wps_ld fv.2 (by rfl) ?_
    by_cases hf2 : fv.2 = true
    rotate_left
    · rw [if_neg hf2] at hsr
      rw [hsr]
      refine wps_ite (fun _ => ?_) (fun h => absurd (by simpa using hf2) h)
      refine wps_stA (by simp) (by simp [Value.oneCell']) ?_
      refine wps_pre (H' := bnk bb rb q m * rackP rb R ds ps * pc x8 [.int .i64 0, .int .i64 0, .slice none 0 0] * takeP b) ?_ ?_
      · refine ent_pick (ent_pickC (by rfl) ?_)
        repeat with_reducible exact ent_drop
      refine wps_takeB ?_
      refine wps_ldA (enc := fun y : (Int × Int × Slc) => [(.int .i64 y.1), (.int .i64 y.2.1), (.slice y.2.2.base y.2.2.len y.2.2.cap)]) (0, 0, ⟨none, 0, 0⟩) (by rfl) (wps_pure ?_)
      refine ent_own0 ?_
      repeat first | (with_reducible refine ent_pick ?_) | (refine ent_prq ?_)
      all_goals first | exact ⟨rfl, rfl, rfl⟩ | trivial
    rw [if_pos hf2] at hsr
    rw [hsr]
    refine wps_ite (fun h => absurd h (by simp [hf2])) (fun _ => ?_)
    refine wps_ld z (by rfl) ?_
    refine wps_bind (sector_Decode_spec (s := z) (b := fv.1) (Ent.trans (ent_pick1 (A := own 1 z (bv fv.1))) (own_rsl _ _ _)) hfb.1 (by omega)) fun y => ?_
    simp only [← star_assoc]
    refine wps_prP fun ⟨hy, _⟩ => ?_
    refine wps_alloc fun x16 => ?_
    refine wps_stA (by simp) (by simp [Value.oneCell']) ?_
    refine wps_ld y.1.2.1 (by rfl) ?_
    refine wps_ld y.1.2.2 (by rfl) ?_
    refine wps_stA (by simp) (by simp [Value.oneCell']) ?_
    refine wps_pre (H' := bnk bb rb q m * rackP rb R ds ps * own 1 y.2.1 (bv (payOf fv.1)) * pc x8 [.int .i64 y.1.2.1, .int .i64 y.1.2.2, vS y.2.1] * takeP b) ?_ ?_
    · refine ent_pick (ent_pickC (by rfl) ?_)
      repeat first | (with_reducible exact ent_drop) | (with_reducible refine ent_pick ?_)
    refine wps_takeB ?_
    refine wps_ldA (enc := fun y : (Int × Int × Slc) => [(.int .i64 y.1), (.int .i64 y.2.1), (.slice y.2.2.base y.2.2.len y.2.2.cap)]) (y.1.2.1, y.1.2.2, y.2.1) (by rfl) (wps_pure ?_)
    rw [hy]
    repeat first | (with_reducible refine ent_pick ?_) | (refine ent_prq ?_)
    all_goals first | exact ⟨rfl, rfl, rfl⟩ | trivial
end Go.Proofs.Ytldmeimebebllaa
namespace Go.Proofs.Ytldmeimebebllaa
open Go.Mo
set_option linter.unusedVariables false
variable {g : Fr} {cv : CV}
def fitC (c : BlkA) : Prop := c.data.length ≤ 56 ∧ (0 ≤ c.owner ∧ c.owner ≤ 65535) ∧ (0 ≤ c.index ∧ c.index ≤ 65535)
def fitsL (l : List BlkA) : Prop := l.length ≤ 6 ∧ ∀ c ∈ l, fitC c
end Go.Proofs.Ytldmeimebebllaa
namespace Go.Proofs.Ytldmeimebebllaa
open Go.Mo
set_option linter.unusedVariables false
variable {g : Fr} {cv : CV}
theorem getL_putL {n : Int} (hn : 0 ≤ n) : ∀ w : Nat, getL (putL w n) = n % (256 ^ w : Nat)
  | 0 => by simp [putL, getL]
  | w + 1 => by
    have e : putL (w + 1) n = putL w n ++ [dg n w] := by simp [putL, List.range_succ]
    rw [e, getL_app, getL_putL hn w, putL_len]
    obtain ⟨N, rfl⟩ : ∃ N : Nat, n = (N : Int) := ⟨n.toNat, by omega⟩
    have h := Nat.mod_mul (x := N) (a := 256 ^ w) (b := 256)
    unfold dg
    rw [Nat.pow_succ]
    generalize 256 ^ w = M at h ⊢
    have h2 := congrArg (fun k : Nat => (k : Int)) h
    simp only [Int.natCast_emod, Int.natCast_add, Int.natCast_mul, Int.natCast_ediv] at h2
    rw [Int.natCast_mul]
    exact h2.symm
theorem getL_fits {n : Int} {w : Nat} (h : fitsN w n) : getL (putL w n) = n := by
  rw [getL_putL h.1]
  exact Int.emod_eq_of_lt h.1 h.2
theorem encL_head {seq o i : Int} {d : List Int} (h : encOk seq o i d) : headOf (encL seq o i d) = (seq, o, i) := by
  have hl := encL_len (seq := seq) (owner := o) (index := i) h.2.2.2
  have e0 : getB (encL seq o i d) 0 4 = seq := by
    unfold getB encL
    rw [List.drop_zero, List.append_assoc, List.append_assoc, List.take_append_of_le_length (by simp [putL_len]), List.take_of_length_le (by simp [putL_len]), getL_fits h.1]
  have e1 : getB (encL seq o i d) 4 2 = o := by
    unfold getB encL
    rw [List.append_assoc, List.append_assoc, List.drop_append_of_le_length (by simp [putL_len]), List.drop_of_length_le (by simp [putL_len]), List.nil_append, List.take_append_of_le_length (by simp [putL_len]), List.take_of_length_le (by simp [putL_len]), getL_fits h.2.1]
  have e2 : getB (encL seq o i d) 6 2 = i := by
    unfold getB encL
    rw [List.append_assoc (putL 4 seq ++ putL 2 o), List.drop_append_of_le_length (by simp [putL_len]), List.drop_of_length_le (by simp [putL_len]), List.nil_append, List.take_append_of_le_length (by simp [putL_len]), List.take_of_length_le (by simp [putL_len]), getL_fits h.2.2.1]
  rw [headOf, if_pos hl, e0, e1, e2]
theorem encL_pay {seq o i : Int} {d : List Int} (h : d.length ≤ 56) : payOf (encL seq o i d) = padL d 56 := by
  rw [payOf, if_pos (encL_len h)]
  unfold encL
  rw [List.drop_append_of_le_length (by simp [putL_len]), List.drop_of_length_le (by simp [putL_len]), List.nil_append]
theorem encL_take {seq o i : Int} {d : List Int} : (encL seq o i d).take 4 = putL 4 seq := by
  unfold encL
  rw [List.append_assoc, List.append_assoc, List.take_append_of_le_length (by simp [putL_len]), List.take_of_length_le (by simp [putL_len])]
theorem bx_nat {x y : Int} : bXor .u8 x y = ((BitVec.ofInt 8 x ^^^ BitVec.ofInt 8 y).toNat : Int) := by
  unfold bXor
  show IntKind.u8.wrap (((BitVec.ofInt 8 x ^^^ BitVec.ofInt 8 y).toNat : Nat) : Int) = _
  have := (BitVec.ofInt 8 x ^^^ BitVec.ofInt 8 y).isLt
  generalize (BitVec.ofInt 8 x ^^^ BitVec.ofInt 8 y).toNat = v at *
  simp [IntKind.wrap, IntKind.bits, IntKind.signed]
  omega
theorem bv_back {x : Int} (h : 0 ≤ x ∧ x < 256) : ((BitVec.ofInt 8 x).toNat : Int) = x := by
  rw [BitVec.toNat_ofInt]
  omega
theorem bv_of (v : BitVec 8) : BitVec.ofInt 8 (v.toNat : Int) = v := by
  apply BitVec.eq_of_toNat_eq
  rw [BitVec.toNat_ofInt]
  have := v.isLt
  omega
theorem bx_r {x y : Int} (h : 0 ≤ x ∧ x < 256) : bXor .u8 y (bXor .u8 x y) = x := by
  rw [bx_nat (x := x) (y := y), bx_nat, bv_of]
  have e : BitVec.ofInt 8 y ^^^ (BitVec.ofInt 8 x ^^^ BitVec.ofInt 8 y) = BitVec.ofInt 8 x := by
    rw [BitVec.xor_comm (BitVec.ofInt 8 x), ← BitVec.xor_assoc, BitVec.xor_self, BitVec.zero_xor]
  rw [e, bv_back h]
theorem bx_l {x y : Int} (h : 0 ≤ y ∧ y < 256) : bXor .u8 x (bXor .u8 x y) = y := by
  rw [bx_nat (x := x) (y := y), bx_nat, bv_of]
  have e : BitVec.ofInt 8 x ^^^ (BitVec.ofInt 8 x ^^^ BitVec.ofInt 8 y) = BitVec.ofInt 8 y := by
    rw [← BitVec.xor_assoc, BitVec.xor_self, BitVec.zero_xor]
  rw [e, bv_back h]
theorem zx_r : ∀ {a b : List Int}, a.length = b.length → Byts a → zx b (zx a b) = a
  | [], [], _, _ => rfl
  | x :: xs, y :: ys, h, ha => by
    simp only [zx]
    rw [bx_r (ha x (by simp)), zx_r (by simpa using h) (fun n hn => ha n (by simp [hn]))]
  | [], _ :: _, h, _ => by simp at h
  | _ :: _, [], h, _ => by simp at h
theorem zx_l : ∀ {a b : List Int}, a.length = b.length → Byts b → zx a (zx a b) = b
  | [], [], _, _ => rfl
  | x :: xs, y :: ys, h, hb => by
    simp only [zx]
    rw [bx_l (hb y (by simp)), zx_l (by simpa using h) (fun n hn => hb n (by simp [hn]))]
  | [], _ :: _, h, _ => by simp at h
  | _ :: _, [], h, _ => by simp at h
def par2 (a b : List Int) : List Int := a.take 4 ++ zx (a.drop 4) (b.drop 4)
theorem par2_len {a b : List Int} (ha : a.length = 64) : (par2 a b).length = 64 := by simp [par2, zx_len]; omega
theorem parL2 {a b : List Int} (ha : a.length = 64) (hb : b.length = 64) (h : b.take 4 = a.take 4) : parL [a, b] = some (par2 a b) := by
  have hok : parOk [a, b] := ⟨by simp, fun c hc => by
    simp only [List.mem_cons, List.not_mem_nil, or_false] at hc
    rcases hc with rfl | rfl
    · exact ⟨ha, rfl⟩
    · exact ⟨hb, h⟩⟩
  have e1 : xorB [] (a.drop 4) = a.drop 4 := by
    unfold xorB
    rw [if_pos (by simp; omega), zx_nil]
  have e2 : xorB (a.drop 4) (b.drop 4) = zx (a.drop 4) (b.drop 4) := by
    unfold xorB
    rw [if_neg (by simp; omega)]
  rw [parL, if_pos hok]
  show some (a.take 4 ++ xorB (xorB [] (a.drop 4)) (b.drop 4)) = _
  rw [e1, e2]; rfl
theorem par2_take {a b : List Int} (ha : a.length = 64) : (par2 a b).take 4 = a.take 4 := by
  unfold par2
  rw [List.take_append_of_le_length (by simp; omega), List.take_of_length_le (by simp; omega)]
theorem par2_drop {a b : List Int} (ha : a.length = 64) : (par2 a b).drop 4 = zx (a.drop 4) (b.drop 4) := by
  unfold par2
  rw [List.drop_append_of_le_length (by simp; omega), List.drop_of_length_le (by simp; omega), List.nil_append]
theorem lost1 {a b : List Int} (ha : a.length = 64) (hb : b.length = 64) (h : b.take 4 = a.take 4) (ba : Byts a) : parL [b, par2 a b] = some a := by
  rw [parL2 hb (par2_len ha) (by rw [par2_take ha, h]), par2, par2_drop ha, zx_r (by simp; omega) (ba.drop 4), h, List.take_append_drop]
theorem lost2 {a b : List Int} (ha : a.length = 64) (hb : b.length = 64) (h : b.take 4 = a.take 4) (bb : Byts b) : parL [a, par2 a b] = some b := by
  rw [parL2 ha (par2_len ha) (par2_take ha), par2, par2_drop ha, zx_l (by simp; omega) (bb.drop 4), ← h, List.take_append_drop]
theorem par2_byts {a b : List Int} (ha : Byts a) (hb : Byts b) (la : a.length = 64) (lb : b.length = 64) (h : b.take 4 = a.take 4) : Byts (par2 a b) := by
  have := parL_byts (ls := [a, b]) (fun c hc => by
    simp only [List.mem_cons, List.not_mem_nil, or_false] at hc
    rcases hc with rfl | rfl
    · exact ha
    · exact hb)
  rw [parL2 la lb h] at this
  exact this
end Go.Proofs.Ytldmeimebebllaa
namespace Go.Proofs.Ytldmeimebebllaa
open Go.Mo
set_option linter.unusedVariables false
variable {g : Fr} {cv : CV}
structure Bl (R : Rk) (m : G3) (b : List Int) (done : Nat → Bool) : Prop where
  calm : Calm R
  n : R.n = 4
  ns : R.ns = 41
  sec : ∀ i s : Nat, i < 3 → s < 41 → (R.dk (slotV (3, 3, 12) m i).1.toNat).sec (s : Int) = if done (i * 41 + s) = true then b else noughts
theorem slot_inj (m : G3) {i j : Nat} (hi : i < 3) (hj : j < 3) (h : (slotV (3, 3, 12) m i).1 = (slotV (3, 3, 12) m j).1) : i = j := by
  rw [(slotV_in m i hi).2, (slotV_in m j hj).2] at h
  split at h <;> split at h <;> omega
theorem Bl.write {R : Rk} {m : G3} {b : List Int} {done : Nat → Bool} (h : Bl R m b done) (hb : b.length = 64) {q r : Nat} (hq : q < 3) (hr : r < 41) :
    R.gate (slotV (3, 3, 12) m q).1 r b.length = 0 ∧ Bl (R.write (slotV (3, 3, 12) m q).1 r b) m b (fun k => if k = q * 41 + r then true else done k) := by
  have hrg := slot_range m q hq
  have hw := h.calm.write (k := (slotV (3, 3, 12) m q).1) (s := r) (b := b) (by rw [h.n]; exact hrg) (by rw [h.ns]; omega) hb
  refine ⟨hw.1, ?_⟩
  rw [hw.2]
  refine ⟨h.calm.put _ _ _, h.n, h.ns, fun i s hi hs => ?_⟩
  rw [put_sec, h.sec i s hi hs]
  have hri := slot_range m i hi
  by_cases h1 : i = q
  · subst h1
    by_cases h2 : s = r
    · subst h2; simp
    · have h4 : ¬ (s : Int) = (r : Int) := by omega
      have h3 : ¬ i * 41 + s = i * 41 + r := by omega
      rw [if_neg (fun e => h4 e.2), if_neg h3]
  · have h2 : ¬ (slotV (3, 3, 12) m i).1.toNat = (slotV (3, 3, 12) m q).1.toNat := fun e => h1 (slot_inj m hi hq (by omega))
    have h3 : ¬ i * 41 + s = q * 41 + r := by omega
    simp [h2, h3]
end Go.Proofs.Ytldmeimebebllaa
namespace Go.Proofs.Ytldmeimebebllaa
open Go.Mo
set_option linter.unusedVariables false
variable {g : Fr} {cv : CV}
def spt (seg r : Nat) (i : Nat) : Int × Int := (if i = 2 then 2 - (((seg * 3 + r) % 3 : Nat) : Int) else ((((3 + i) - (seg * 3 + r) % 3) % 3 : Nat) : Int), (5 + (seg * 3 + r) : Nat))
theorem spotsL_small (seg r : Nat) : spotsL (3, 3, 12) seg r = [spt seg r 0, spt seg r 1, spt seg r 2] := by
  have e2 : ((3 : Int) - 1).toNat = 2 := rfl
  unfold spotsL
  rw [show ((3, 3, 12) : G3).1 = 3 from rfl, e2]
  simp only [List.range_succ, List.range_zero, List.nil_append, List.map_cons, List.map_nil, List.cons_append]
  have h0 : blkSpot (3, 3, 12) seg ((r : Int) * (3 - 1) + ((0 : Nat) : Int)) = spt seg r 0 := by
    unfold blkSpot rowOf spt
    have : ((r : Int) * (3 - 1) + ((0 : Nat) : Int)) / (3 - 1) = r := by omega
    simp only [this]
    refine Prod.ext ?_ ?_
    · show (3 - 1 - ((seg : Int) * 3 + r) % 3 + 1 + ((r : Int) * (3 - 1) + ((0 : Nat) : Int)) % (3 - 1)) % 3 = _
      simp only [if_neg (show ¬ (0 : Nat) = 2 by decide)]
      omega
    · show (5 + ((seg : Int) * 3 + r) : Int) = _
      simp
  have h1 : blkSpot (3, 3, 12) seg ((r : Int) * (3 - 1) + ((1 : Nat) : Int)) = spt seg r 1 := by
    unfold blkSpot rowOf spt
    have : ((r : Int) * (3 - 1) + ((1 : Nat) : Int)) / (3 - 1) = r := by omega
    simp only [this]
    refine Prod.ext ?_ ?_
    · show (3 - 1 - ((seg : Int) * 3 + r) % 3 + 1 + ((r : Int) * (3 - 1) + ((1 : Nat) : Int)) % (3 - 1)) % 3 = _
      simp only [if_neg (show ¬ (1 : Nat) = 2 by decide)]
      omega
    · show (5 + ((seg : Int) * 3 + r) : Int) = _
      simp
  have h2 : parSpot (3, 3, 12) seg r = spt seg r 2 := by
    unfold parSpot rowOf spt
    refine Prod.ext ?_ ?_
    · show (3 - 1 - ((seg : Int) * 3 + r) % 3) = _
      simp only [if_true]
      omega
    · show (5 + ((seg : Int) * 3 + r) : Int) = _
      simp
  rw [h0, h1, h2]
theorem spt_rng {seg r i : Nat} (hs : seg < 12) (hr : r < 3) (hi : i < 3) : (0 ≤ (spt seg r i).1 ∧ (spt seg r i).1 < 3) ∧ (5 ≤ (spt seg r i).2 ∧ (spt seg r i).2 < 41) := by
  unfold spt
  refine ⟨?_, ?_⟩
  · simp only
    split <;> omega
  · simp only
    omega
theorem spt_inj {seg seg' r r' i i' : Nat} (hr : r < 3) (hr' : r' < 3) (hi : i < 3) (hi' : i' < 3) (h : spt seg r i = spt seg' r' i') : seg = seg' ∧ r = r' ∧ i = i' := by
  unfold spt at h
  have h1 := congrArg Prod.fst h
  have h2 := congrArg Prod.snd h
  simp only at h1 h2
  have h3 : seg = seg' := by omega
  have h4 : r = r' := by omega
  subst h3 h4
  refine ⟨rfl, rfl, ?_⟩
  split at h1 <;> split at h1 <;> omega
def lastW (es : List ((Int × Int) × List Int)) (x : Int × Int) (d : List Int) : List Int := es.foldl (fun d e => if e.1 = x then e.2 else d) d
theorem lastW_not {es : List ((Int × Int) × List Int)} {x : Int × Int} : ∀ {d : List Int}, (∀ e ∈ es, e.1 ≠ x) → lastW es x d = d := by
  induction es with
  | nil => intro d _; rfl
  | cons e es ih =>
    intro d h
    show lastW es x (if e.1 = x then e.2 else d) = d
    rw [if_neg (h e (by simp))]
    exact ih fun e' h' => h e' (by simp [h'])
theorem lastW_mem {es : List ((Int × Int) × List Int)} {x : Int × Int} {v : List Int} : ∀ {d : List Int}, (es.map (·.1)).Nodup → (x, v) ∈ es → lastW es x d = v := by
  induction es with
  | nil => intro d _ h; simp at h
  | cons e es ih =>
    intro d hn h
    simp only [List.map_cons, List.nodup_cons] at hn
    show lastW es x (if e.1 = x then e.2 else d) = v
    rcases List.mem_cons.1 h with h | h
    · subst h
      rw [if_pos rfl]
      exact lastW_not fun e' h' he => hn.1 (by rw [List.mem_map]; exact ⟨e', h', he⟩)
    · exact ih hn.2 h
theorem Rk.bys.put {R : Rk} (h : R.bys) {k s : Int} {b : List Int} (hb : Byts b) : (R.put k s b).bys := fun j => by
  simp only [Rk.put]
  split
  · refine ⟨(h j).1, fun i c hc => ?_⟩
    simp only at hc
    split at hc
    · cases hc; exact hb
    · exact (h j).2 i c hc
  · exact h j
theorem Rk.bys_new (n s : Nat) : (Rk.new n s).bys := fun j => ⟨fun k n hn => by
  have : n = 0 := by simp [Rk.new, Dk.new, noughts] at hn; exact hn
  omega, fun i c hc => by simp [Rk.new, Dk.new] at hc⟩
structure Wrote (m : G3) (es : List ((Int × Int) × List Int)) (R R1 : Rk) : Prop where
  calm : Calm R1
  n : R1.n = 4
  ns : R1.ns = 41
  sec : ∀ (i : Nat) (s : Int), i < 3 → (R1.dk (slotV (3, 3, 12) m i).1.toNat).sec s = lastW es ((i : Int), s) ((R.dk (slotV (3, 3, 12) m i).1.toNat).sec s)
  lasts : ∀ j k, (R1.dk j).lasts k = (R.dk j).lasts k
  bys : R.bys → (∀ e ∈ es, Byts e.2) → R1.bys
theorem wr_calm (m : G3) : ∀ (es : List ((Int × Int) × List Int)) (R : Rk), Calm R → R.n = 4 → R.ns = 41 → (∀ e ∈ es, (0 ≤ e.1.1 ∧ e.1.1 < 3) ∧ (0 ≤ e.1.2 ∧ e.1.2 < 41) ∧ e.2.length = 64) →
    (wrAll (3, 3, 12) m es R).2 = false ∧ Wrote m es R (wrAll (3, 3, 12) m es R).1
  | [], R, h, hn, hs, _ => ⟨rfl, h, hn, hs, fun _ _ _ => rfl, fun _ _ => rfl, fun h _ => h⟩
  | e :: es, R, h, hn, hs, he => by
    obtain ⟨⟨a0, a1⟩, ⟨b0, b1⟩, hl⟩ := he e (by simp)
    obtain ⟨i0, hi0⟩ : ∃ i0 : Nat, e.1.1 = (i0 : Int) := ⟨e.1.1.toNat, by omega⟩
    have hi3 : i0 < 3 := by omega
    have hsl := slotV_in m i0 hi3
    have hrg := slot_range m i0 hi3
    have hw := h.write (k := (slotV (3, 3, 12) m e.1.1).1) (s := e.1.2) (b := e.2) (by rw [hi0, hn]; exact hrg) (by rw [hs]; omega) hl
    have hg : bgate (3, 3, 12) m R e.1 e.2 = 0 := by unfold bgate; rw [hi0, hsl.1, if_pos rfl, ← hi0]; exact hw.1
    have hb : bwrite (3, 3, 12) m R e.1 e.2 = R.put (slotV (3, 3, 12) m e.1.1).1 e.1.2 e.2 := by unfold bwrite; rw [hi0, hsl.1, if_pos rfl, ← hi0]; exact hw.2
    rw [wrAll, hg, if_neg (by decide), hb]
    have ih := wr_calm m es (R.put (slotV (3, 3, 12) m e.1.1).1 e.1.2 e.2) (h.put _ _ _) hn hs (fun e' h' => he e' (by simp [h']))
    refine ⟨ih.1, ih.2.calm, ih.2.n, ih.2.ns, fun i s hi => ?_, fun j k => ?_, fun hby hbe => ?_⟩
    · rw [ih.2.sec i s hi, put_sec]
      show lastW es _ _ = lastW es _ (if e.1 = ((i : Int), s) then e.2 else _)
      congr 1
      have hri := slot_range m i hi
      by_cases h1 : e.1 = ((i : Int), s)
      · rw [if_pos h1, if_pos]
        rw [h1]; exact ⟨rfl, rfl⟩
      · rw [if_neg h1, if_neg]
        rintro ⟨h2, h3⟩
        apply h1
        refine Prod.ext ?_ h3.symm
        show e.1.1 = (i : Int)
        rw [hi0] at h2 ⊢
        have := slot_inj m hi hi3 (by omega)
        omega
    · rw [ih.2.lasts]
      simp only [Rk.put]; split <;> rfl
    · exact ih.2.bys (hby.put (hbe e (by simp))) fun e' h' => hbe e' (by simp [h'])
end Go.Proofs.Ytldmeimebebllaa
namespace Go.Proofs.Ytldmeimebebllaa
open Go.Mo
set_option linter.unusedVariables false
variable {g : Fr} {cv : CV}
abbrev Q3 : G3 := (3, 3, 12)
theorem nBlk3 : nBlk Q3 = 6 := rfl
structure EncD (seq : Int) (l : List BlkA) : Prop where
  all : encAll seq l 6 = true
  byts : ∀ c ∈ l, Byts c.data
theorem EncD.ok {seq : Int} {l : List BlkA} (h : EncD seq l) {k : Nat} (hk : k < 6) : encOk seq (blkAt l k).owner (blkAt l k).index (blkAt l k).data := encAll_iff.1 h.all k hk
theorem blkAt_byts {l : List BlkA} (h : ∀ c ∈ l, Byts c.data) (k : Nat) : Byts (blkAt l k).data := by
  unfold blkAt
  by_cases hk : k < l.length
  · rw [List.getD_eq_getElem?_getD, List.getElem?_eq_getElem hk]; exact h _ (List.getElem_mem hk)
  · rw [List.getD_eq_getElem?_getD, List.getElem?_eq_none (by omega)]; exact fun n hn => by simp [BlkA.nil] at hn
theorem EncD.len {seq : Int} {l : List BlkA} (h : EncD seq l) {k : Nat} (hk : k < 6) : (encAt seq l k).length = 64 := encL_len (h.ok hk).2.2.2
theorem EncD.by {seq : Int} {l : List BlkA} (h : EncD seq l) (k : Nat) : Byts (encAt seq l k) := encL_byts (blkAt_byts h.byts k)
theorem encAt_take {seq : Int} {l : List BlkA} {k : Nat} : (encAt seq l k).take 4 = putL 4 seq := encL_take
theorem dat_blk {seq : Int} {l : List BlkA} {r i : Nat} (hi : i < 2) : datAt Q3 seq l r i = encAt seq l (r * 2 + i) := by
  unfold datAt
  rw [show ((Q3.1 - 1).toNat) = 2 from rfl, if_pos hi]
theorem dat_par {seq : Int} {l : List BlkA} {r : Nat} (h : EncD seq l) (hr : r < 3) : datAt Q3 seq l r 2 = par2 (encAt seq l (r * 2)) (encAt seq l (r * 2 + 1)) := by
  unfold datAt
  rw [show ((Q3.1 - 1).toNat) = 2 from rfl, if_neg (by decide)]
  have e : rowL Q3 seq l r = [encAt seq l (r * 2), encAt seq l (r * 2 + 1)] := by
    unfold rowL
    rw [show ((Q3.1 - 1).toNat) = 2 from rfl]
    rfl
  rw [e, parL2 (h.len (by omega)) (h.len (by omega)) (by rw [encAt_take, encAt_take])]; rfl
structure DatOk (seq : Int) (d : List Int) : Prop where
  len : d.length = 64
  byts : Byts d
  take : d.take 4 = putL 4 seq
theorem EncD.dat {seq : Int} {l : List BlkA} (h : EncD seq l) {r i : Nat} (hr : r < 3) (hi : i < 3) : DatOk seq (datAt Q3 seq l r i) := by
  have h1 := h.len (k := r * 2) (by omega)
  have h2 := h.len (k := r * 2 + 1) (by omega)
  have ht : (encAt seq l (r * 2 + 1)).take 4 = (encAt seq l (r * 2)).take 4 := by rw [encAt_take, encAt_take]
  by_cases h3 : i < 2
  · rw [dat_blk h3]
    exact ⟨h.len (by omega), h.by _, encAt_take⟩
  · obtain rfl : i = 2 := by omega
    rw [dat_par h hr]
    exact ⟨par2_len h1, par2_byts (h.by _) (h.by _) h1 h2 ht, by rw [par2_take h1, encAt_take]⟩
theorem DatOk.head {seq : Int} {d : List Int} (h : DatOk seq d) (hs : fitsN 4 seq) : (headOf d).1 = seq := by
  rw [headOf, if_pos h.len]
  show getB d 0 4 = seq
  unfold getB
  rw [List.drop_zero, h.take, getL_fits hs]
theorem rowW3 (seg : Nat) (seq : Int) (l : List BlkA) (r : Nat) : rowW Q3 seg seq l r = (List.range 3).map fun i => (spt seg r i, datAt Q3 seq l r i) := by
  unfold rowW
  rw [show Q3.1.toNat = 3 from rfl]
  have := spotsL_small seg r
  rw [this]
  rfl
theorem restW3 (seg : Nat) (seq : Int) (l : List BlkA) : restW Q3 seg seq l 0 = (List.range 9).map fun t => (spt seg (t / 3) (t % 3), datAt Q3 seq l (t / 3) (t % 3)) := by
  unfold restW
  rw [List.drop_zero, show Q3.2.1.toNat = 3 from rfl]
  show rowW Q3 seg seq l 0 ++ (rowW Q3 seg seq l 1 ++ (rowW Q3 seg seq l 2 ++ [])) = _
  rw [rowW3, rowW3, rowW3]
  rfl
theorem allS3 (seg : Nat) : allS Q3 seg 0 = (List.range 9).map fun t => spt seg (t / 3) (t % 3) := by
  unfold allS
  rw [List.drop_zero, show Q3.2.1.toNat = 3 from rfl]
  show spotsL Q3 seg ((0 : Nat)) ++ (spotsL Q3 seg ((1 : Nat)) ++ (spotsL Q3 seg ((2 : Nat)) ++ [])) = _
  rw [spotsL_small, spotsL_small, spotsL_small]
  rfl
theorem restW_nodup (seg : Nat) (seq : Int) (l : List BlkA) : ((restW Q3 seg seq l 0).map (·.1)).Nodup := by
  rw [restW3, List.map_map, List.Nodup, List.pairwise_map]
  refine List.Pairwise.imp_of_mem ?_ List.pairwise_lt_range
  intro a b ha hb hlt h
  have ha' : a < 9 := List.mem_range.1 ha
  have hb' : b < 9 := List.mem_range.1 hb
  have := spt_inj (by omega) (by omega) (by omega) (by omega) h
  omega
def Seg (m : G3) (R : Rk) (seg : Nat) (seq : Int) (l : List BlkA) : Prop := ∀ r i, r < 3 → i < 3 → (R.dk (slotV Q3 m (spt seg r i).1).1.toNat).sec (spt seg r i).2 = datAt Q3 seq l r i
theorem spt_slot {seg r i : Nat} (hs : seg < 12) (hr : r < 3) (hi : i < 3) : ∃ j : Nat, j < 3 ∧ (spt seg r i).1 = (j : Int) := ⟨(spt seg r i).1.toNat, by have := (spt_rng hs hr hi).1; omega, by have := (spt_rng hs hr hi).1; omega⟩
theorem seg_wrote {m : G3} {R : Rk} {seg : Nat} {seq : Int} {l : List BlkA} (hs : seg < 12) (h : EncD seq l) (hc : Calm R) (hn : R.n = 4) (hns : R.ns = 41) :
    (wrAll Q3 m (restW Q3 seg seq l 0) R).2 = false ∧ Wrote m (restW Q3 seg seq l 0) R (wrAll Q3 m (restW Q3 seg seq l 0) R).1 ∧ Seg m (wrAll Q3 m (restW Q3 seg seq l 0) R).1 seg seq l ∧
      (R.bys → (wrAll Q3 m (restW Q3 seg seq l 0) R).1.bys) ∧ ∀ seg' seq' l', seg' < 12 → seg' ≠ seg → Seg m R seg' seq' l' → Seg m (wrAll Q3 m (restW Q3 seg seq l 0) R).1 seg' seq' l' := by
  have hmem : ∀ e ∈ restW Q3 seg seq l 0, ∃ r i, r < 3 ∧ i < 3 ∧ e = (spt seg r i, datAt Q3 seq l r i) := fun e he => by
    rw [restW3, List.mem_map] at he
    obtain ⟨t, ht, rfl⟩ := he
    have := List.mem_range.1 ht
    exact ⟨t / 3, t % 3, by omega, by omega, rfl⟩
  have hw := wr_calm m (restW Q3 seg seq l 0) R hc hn hns (fun e he => by
    obtain ⟨r, i, hr, hi, rfl⟩ := hmem e he
    have hrg := spt_rng hs hr hi
    exact ⟨hrg.1, ⟨by have := hrg.2.1; show 0 ≤ (spt seg r i).2; omega, hrg.2.2⟩, (h.dat hr hi).len⟩)
  refine ⟨hw.1, hw.2, fun r i hr hi => ?_, fun hby => hw.2.bys hby fun e he => ?_, fun seg' seq' l' hs' hne hold r i hr hi => ?_⟩
  · obtain ⟨j, hj, hje⟩ := spt_slot hs hr hi
    rw [hje, hw.2.sec j _ hj]
    refine lastW_mem (restW_nodup seg seq l) ?_
    rw [restW3, List.mem_map]
    refine ⟨r * 3 + i, List.mem_range.2 (by omega), ?_⟩
    rw [show (r * 3 + i) / 3 = r by omega, show (r * 3 + i) % 3 = i by omega, ← hje]
  · obtain ⟨r, i, hr, hi, rfl⟩ := hmem e he
    exact (h.dat hr hi).byts
  · obtain ⟨j, hj, hje⟩ := spt_slot hs' hr hi
    rw [hje, hw.2.sec j _ hj, lastW_not, ← hje]
    · exact hold r i hr hi
    · intro e he heq
      obtain ⟨r', i', hr', hi', rfl⟩ := hmem e he
      rw [← hje] at heq
      have := spt_inj (seg := seg) (seg' := seg') hr' hr hi' hi heq
      omega
end Go.Proofs.Ytldmeimebebllaa
namespace Go.Proofs.Ytldmeimebebllaa
open Go.Mo
set_option linter.unusedVariables false
variable {g : Fr} {cv : CV}
theorem tick_same (D : Dk) : D.tick.cached = D.cached ∧ D.tick.lasts = D.lasts := by
  unfold Dk.tick
  repeat' split
  all_goals exact ⟨rfl, rfl⟩
structure SameS (R R1 : Rk) : Prop where
  sec : ∀ j (s : Nat), (R1.dk j).sec (s : Int) = (R.dk j).sec (s : Int)
  bys : R.bys → R1.bys
  n : R1.n = R.n
  ns : R1.ns = R.ns
theorem SameS.refl (R : Rk) : SameS R R := ⟨fun _ _ => rfl, id, rfl, rfl⟩
theorem SameS.trans {A B C : Rk} (h : SameS A B) (h' : SameS B C) : SameS A C := ⟨fun j s => (h'.sec j s).trans (h.sec j s), fun x => h'.bys (h.bys x), h'.n.trans h.n, h'.ns.trans h.ns⟩
theorem SameS.ticked (R : Rk) : SameS R R.ticked := by
  unfold Rk.ticked
  split
  · exact ⟨fun _ _ => rfl, fun h => h, rfl, rfl⟩
  · refine ⟨fun j s => ?_, fun h j => ?_, rfl, rfl⟩
    · show ((R.dk j).tick).sec s = _
      unfold Dk.sec
      rw [(tick_same _).1, (tick_same _).2]
    · have := tick_same (R.dk j)
      show (R.dk j).tick.bys
      unfold Dk.bys
      rw [this.1, this.2]
      exact h j
theorem SameS.gated (R : Rk) (k s size : Int) : SameS R (R.gated k s size) := by
  unfold Rk.gated
  split
  · exact .refl R
  · exact .ticked R
theorem clean_sec (D : Dk) (s : Nat) : ((D.flushed fun _ => true).clean).sec (s : Int) = D.sec (s : Int) := by
  simp only [Dk.flushed, Dk.clean, Dk.sec, Int.toNat_natCast]
  cases D.cached (s : Int) <;> rfl
theorem clean_bys {D : Dk} (h : D.bys) (p : Int → Bool) : ((D.flushed p).clean).bys := by
  refine ⟨fun k => ?_, fun j b hb => by simp [Dk.clean] at hb⟩
  simp only [Dk.flushed, Dk.clean]
  cases hc : D.cached (k : Int) with
  | none => exact h.1 k
  | some b =>
    simp only
    split
    · exact h.2 _ _ hc
    · exact h.1 k
theorem SameS.flush (R : Rk) (k : Int) : SameS R (R.flush k) := by
  unfold Rk.flush
  have hg := SameS.gated R k 0 64
  split
  · refine hg.trans ⟨fun j s => ?_, fun h j => ?_, rfl, rfl⟩
    · simp only [Rk.setD]
      split
      · rename_i hj; subst hj; exact clean_sec _ s
      · rfl
    · simp only [Rk.setD]
      split
      · exact clean_bys (h _) _
      · exact h j
  · exact hg
theorem SameS.flushL : ∀ (xs : List Int) (R : Rk), SameS R (flushL xs R).1
  | [], R => .refl R
  | d :: xs, R => by
    unfold Go.Proofs.Ytldmeimebebllaa.flushL
    split
    · exact .flush R d
    · exact (SameS.flush R d).trans (SameS.flushL xs _)
theorem SameS.doom (R : Rk) (k c : Int) : SameS R (R.doom k c) := by
  unfold Rk.doom
  split
  · exact .refl R
  · refine ⟨fun j s => ?_, fun h j => ?_, rfl, rfl⟩
    · simp only [Rk.setD]
      split
      · rename_i hj; subst hj; rfl
      · rfl
    · simp only [Rk.setD]
      split
      · rename_i hj; subst hj; exact h _
      · exact h j
theorem Seg.same {m : G3} {R R1 : Rk} {seg : Nat} {seq : Int} {l : List BlkA} (h : Seg m R seg seq l) (hs : SameS R R1) : Seg m R1 seg seq l := fun r i hr hi => by
  have e : (spt seg r i).2 = ((5 + (seg * 3 + r) : Nat) : Int) := rfl
  rw [← h r i hr hi, e, hs.sec]
theorem armed_doom {R : Rk} (h : Calm R) {f : Int} (hf : 0 ≤ f ∧ f < R.n) : Armed (R.doom f 0) (fun j => decide (j = f.toNat)) := by
  unfold Rk.doom
  rw [if_neg (by omega)]
  refine ⟨h.off, h.count, fun j => ?_, fun j => ?_⟩
  · simp only [Rk.setD]; split <;> simp [h.failed]
  · simp only [Rk.setD]
    by_cases hj : j = f.toNat
    · subst hj; simp [maxI]
    · simp [hj, h.counts]
theorem sec_brd {m : G3} {R : Rk} {f : Nat → Bool} (h : Settled R f) (hn : R.n = 4) (hns : R.ns = 41) {s : Int × Int} (h1 : 0 ≤ s.1 ∧ s.1 < 3) (h2 : 0 ≤ s.2 ∧ s.2 < 41) :
    brdE Q3 m R s = (if f (slotV Q3 m s.1).1.toNat = true then 13 else 0) ∧ (f (slotV Q3 m s.1).1.toNat = false → brd Q3 m R s = (R.dk (slotV Q3 m s.1).1.toNat).sec s.2) := by
  obtain ⟨i, hi⟩ : ∃ i : Nat, s.1 = (i : Int) := ⟨s.1.toNat, by omega⟩
  have hi3 : i < 3 := by omega
  have hsl := slotV_in m i hi3
  have hrg : 0 ≤ (slotV Q3 m i).1 ∧ (slotV Q3 m i).1 < 4 := slot_range m i hi3
  unfold brdE brd
  rw [hi]
  have hr : ¬ ((slotV Q3 m i).1 < 0 ∨ (slotV Q3 m i).1 ≥ (R.n : Int) ∨ s.2 < 0 ∨ s.2 ≥ (R.ns : Int)) := by
    rw [hn, hns]
    omega
  have hE : R.rdErr (slotV Q3 m i).1 s.2 = if f (slotV Q3 m i).1.toNat = true then 13 else 0 := by
    unfold Rk.rdErr
    rw [if_neg (by simp [h.off]), if_neg hr, h.failed]
  rw [show (slotV Q3 m i).2 = true from hsl.1, if_pos rfl, if_pos rfl]
  refine ⟨hE, fun hf => ?_⟩
  unfold Rk.rd
  rw [hE, hf]
  simp
end Go.Proofs.Ytldmeimebebllaa
namespace Go.Proofs.Ytldmeimebebllaa
open Go.Mo
set_option linter.unusedVariables false
variable {g : Fr} {cv : CV}
structure SegF (m : G3) (R : Rk) (f : Nat → Bool) (seg : Nat) (seq : Int) (l : List BlkA) : Prop where
  set : Settled R f
  n : R.n = 4
  ns : R.ns = 41
  there : Seg m R seg seq l
  enc : EncD seq l
  s12 : seg < 12
  fit : fitsN 4 seq
def lostS (m : G3) (f : Nat → Bool) (i : Nat) : Bool := f (slotV Q3 m i).1.toNat
theorem SegF.good {m : G3} {R : Rk} {f : Nat → Bool} {seg : Nat} {seq : Int} {l : List BlkA} (h : SegF m R f seg seq l) {r i : Nat} (hr : r < 3) (hi : i < 3) :
    goodV Q3 m R (spt seg r i) seq = if lostS m f (spt seg r i).1.toNat = true then ([], false) else (datAt Q3 seq l r i, true) := by
  have hrg := spt_rng h.s12 hr hi
  have hb := sec_brd (m := m) h.set h.n h.ns (s := spt seg r i) hrg.1 (by omega)
  have hL : lostS m f (spt seg r i).1.toNat = f (slotV Q3 m (spt seg r i).1).1.toNat := by
    unfold lostS
    rw [show (((spt seg r i).1.toNat : Nat) : Int) = (spt seg r i).1 by omega]
  unfold goodV
  rw [hL, hb.1]
  cases hf : f (slotV Q3 m (spt seg r i).1).1.toNat with
  | true => simp
  | false =>
    rw [hb.2 hf, h.there r i hr hi]
    have := ((h.enc.dat hr hi).head h.fit)
    simp [this]
def oneLost (m : G3) (f : Nat → Bool) : Prop := ∀ i j, i < 3 → j < 3 → lostS m f i = true → lostS m f j = true → i = j
theorem spt_ne {seg r i j : Nat} (hr : r < 3) (hi : i < 3) (hj : j < 3) (h : i ≠ j) : spt seg r i ≠ spt seg r j := fun e => h (spt_inj hr hr hi hj e).2.2
theorem spt_slot_ne {seg r i j : Nat} (hr : r < 3) (hi : i < 3) (hj : j < 3) (hs : seg < 12) (h : i ≠ j) : (spt seg r i).1.toNat ≠ (spt seg r j).1.toNat := fun e => by
  have h1 := (spt_rng hs hr hi).1
  have h2 := (spt_rng hs hr hj).1
  exact spt_ne (seg := seg) hr hi hj h (Prod.ext (by omega) rfl)
theorem SegF.oth {m : G3} {R : Rk} {f : Nat → Bool} {seg : Nat} {seq : Int} {l : List BlkA} (h : SegF m R f seg seq l) {r i : Nat} (hr : r < 3) (hi : i < 3) (ho : ∀ j, j < 3 → j ≠ i → lostS m f (spt seg r j).1.toNat = false) :
    othV Q3 m R (spt seg r i) seq (spotsL Q3 seg r) = (datAt Q3 seq l r i, true) := by
  have hg : ∀ j, j < 3 → j ≠ i → goodV Q3 m R (spt seg r j) seq = (datAt Q3 seq l r j, true) := fun j hj hne => by
    rw [h.good hr hj, ho j hj hne]; simp
  have hs := spotsL_small seg r
  rw [show spotsL Q3 seg r = [spt seg r 0, spt seg r 1, spt seg r 2] from hs]
  have h0 := h.enc.dat (r := r) (i := 0) hr (by decide)
  have h1 := h.enc.dat (r := r) (i := 1) hr (by decide)
  have e0 : datAt Q3 seq l r 0 = encAt seq l (r * 2) := dat_blk (by decide)
  have e1 : datAt Q3 seq l r 1 = encAt seq l (r * 2 + 1) := dat_blk (by decide)
  have ht : (encAt seq l (r * 2 + 1)).take 4 = (encAt seq l (r * 2)).take 4 := by rw [encAt_take, encAt_take]
  have l0 : (encAt seq l (r * 2)).length = 64 := e0 ▸ h0.len
  have l1 : (encAt seq l (r * 2 + 1)).length = 64 := e1 ▸ h1.len
  have hp := dat_par h.enc hr
  unfold othV
  have hi' : i = 0 ∨ i = 1 ∨ i = 2 := by omega
  rcases hi' with rfl | rfl | rfl
  · have n1 := spt_ne (seg := seg) hr (i := 1) (j := 0) (by decide) (by decide) (by decide)
    have n2 := spt_ne (seg := seg) hr (i := 2) (j := 0) (by decide) (by decide) (by decide)
    simp only [othL, if_true, if_neg n1, if_neg n2, hg 1 (by decide) (by decide), hg 2 (by decide) (by decide), Option.map_some]
    rw [e1, hp, e0, lost1 l0 l1 ht (h.enc.by _)]; rfl
  · have n1 := spt_ne (seg := seg) hr (i := 0) (j := 1) (by decide) (by decide) (by decide)
    have n2 := spt_ne (seg := seg) hr (i := 2) (j := 1) (by decide) (by decide) (by decide)
    simp only [othL, if_true, if_neg n1, if_neg n2, hg 0 (by decide) (by decide), hg 2 (by decide) (by decide), Option.map_some]
    rw [e0, hp, e1, lost2 l0 l1 ht (h.enc.by _)]; rfl
  · have n1 := spt_ne (seg := seg) hr (i := 0) (j := 2) (by decide) (by decide) (by decide)
    have n2 := spt_ne (seg := seg) hr (i := 1) (j := 2) (by decide) (by decide) (by decide)
    simp only [othL, if_true, if_neg n1, if_neg n2, hg 0 (by decide) (by decide), hg 1 (by decide) (by decide), Option.map_some]
    rw [e0, e1, parL2 l0 l1 ht, hp]; rfl
theorem blkSpot3 {seg k : Nat} (hk : k < 6) : blkSpot Q3 seg k = spt seg (k / 2) (k % 2) ∧ ((k : Int) / (Q3.1 - 1)).toNat = k / 2 := by
  refine ⟨?_, ?_⟩
  · have hs := spotsL_small seg (k / 2)
    have e : blkSpot Q3 seg k = (spotsL Q3 seg ((k / 2 : Nat))).getD (k % 2) (0, 0) := by
      unfold spotsL
      rw [show ((Q3.1 - 1).toNat) = 2 from rfl]
      have hlt : k % 2 < 2 := Nat.mod_lt _ (by decide)
      rw [List.getD_eq_getElem?_getD, List.getElem?_append_left (by simp; omega), List.getElem?_map, List.getElem?_range hlt]
      show _ = blkSpot Q3 seg (((k / 2 : Nat) : Int) * (3 - 1) + ((k % 2 : Nat) : Int))
      congr 1
      omega
    rw [e, show spotsL Q3 seg ((k / 2 : Nat)) = _ from hs]
    have : k % 2 = 0 ∨ k % 2 = 1 := by omega
    rcases this with h | h <;> rw [h] <;> rfl
  · show ((k : Int) / (3 - 1)).toNat = k / 2
    omega
theorem SegF.read {m : G3} {R : Rk} {f : Nat → Bool} {seg : Nat} {seq : Int} {l : List BlkA} (h : SegF m R f seg seq l) (h1 : oneLost m f) {k : Nat} (hk : k < 6) :
    sRead Q3 m R seg k seq = (((blkAt l k).owner, (blkAt l k).index, padL (blkAt l k).data 56), 0) := by
  obtain ⟨hsp, hrow⟩ := blkSpot3 (seg := seg) hk
  have hr : k / 2 < 3 := by omega
  have hi : k % 2 < 3 := by omega
  have hbo : blkOkB Q3 seg k = true := by
    have hR : RightB Q3 = true := by decide
    simp only [blkOkB, hR, Bool.true_and, Bool.and_eq_true, decide_eq_true_eq]
    have hpl : placesI Q3 = 5 := rfl
    rw [hpl]
    have := h.s12
    omega
  unfold sRead
  rw [if_neg (by simp [hbo]), if_neg (by simp [h.set.off]), hsp, hrow]
  have hx : (if (goodV Q3 m R (spt seg (k / 2) (k % 2)) seq).2 = true then goodV Q3 m R (spt seg (k / 2) (k % 2)) seq else othV Q3 m R (spt seg (k / 2) (k % 2)) seq (spotsL Q3 seg ((k / 2 : Nat)))) = (datAt Q3 seq l (k / 2) (k % 2), true) := by
    rw [h.good hr hi]
    cases hl : lostS m f (spt seg (k / 2) (k % 2)).1.toNat with
    | false => simp
    | true =>
      rw [h.oth hr hi]
      · simp
      · intro j hj hne
        cases hl2 : lostS m f (spt seg (k / 2) j).1.toNat with
        | false => rfl
        | true =>
          have r1 := (spt_rng h.s12 hr hi).1
          have r2 := (spt_rng h.s12 hr hj).1
          exact absurd (h1 _ _ (by omega) (by omega) hl hl2) (spt_slot_ne hr hi hj h.s12 (fun e => hne e.symm))
  simp only [hx, if_true]
  have hd : datAt Q3 seq l (k / 2) (k % 2) = encAt seq l k := by
    rw [dat_blk (by omega)]
    congr 1
    omega
  have hok := h.enc.ok hk
  rw [hd, encAt, encL_head hok, encL_pay hok.2.2.2]
theorem mem_badI {q m : G3} {R : Rk} {i : Nat} (hi : i < q.1.toNat) : ((i : Int) ∈ badI q m R) ↔ isBad q m R i = true := by
  unfold badI badL
  rw [List.mem_map]
  constructor
  · rintro ⟨j, hj, he⟩
    obtain rfl : j = i := by omega
    exact (List.mem_filter.1 hj).2
  · intro h
    exact ⟨i, List.mem_filter.2 ⟨List.mem_range.2 hi, h⟩, rfl⟩
theorem SegF.wh {m : G3} {R : Rk} {f : Nat → Bool} {seg : Nat} {seq : Int} {l : List BlkA} (h : SegF m R f seg seq l) (bad : List Int) (hb : ∀ i : Nat, i < 3 → (i : Int) ∉ bad → lostS m f i = false) (hs1 : 1 ≤ seq) :
    ∀ (ss : List (Int × Int)) (s : Int), (∀ sp ∈ ss, ∃ r i, r < 3 ∧ i < 3 ∧ sp = spt seg r i) → (s = 0 ∨ s = seq) → ∃ t, whL Q3 m R bad ss s = some t ∧ (s = seq → t = seq) ∧ ((∃ sp ∈ ss, sp.1 ∉ bad) → t = seq)
  | [], s, _, _ => ⟨s, rfl, id, by simp⟩
  | sp :: ss, s, hss, hs => by
    obtain ⟨r, i, hr, hi, he⟩ := hss sp (by simp)
    have hrg := spt_rng h.s12 hr hi
    rw [whL]
    by_cases hm : sp.1 ∈ bad
    · rw [if_pos hm]
      obtain ⟨t, h1, h2, h3⟩ := h.wh bad hb hs1 ss s (fun sp' h' => hss sp' (by simp [h'])) hs
      refine ⟨t, h1, h2, fun ⟨sp', hm', hn'⟩ => h3 ⟨sp', ?_, hn'⟩⟩
      rcases List.mem_cons.1 hm' with rfl | hm'
      · exact absurd hm hn'
      · exact hm'
    · have hl : lostS m f (spt seg r i).1.toNat = false := hb _ (by omega) (by
        rw [show (((spt seg r i).1.toNat : Nat) : Int) = (spt seg r i).1 by omega, ← he]; exact hm)
      have hbr := sec_brd (m := m) h.set h.n h.ns (s := spt seg r i) hrg.1 (by omega)
      unfold lostS at hl
      rw [show (((spt seg r i).1.toNat : Nat) : Int) = (spt seg r i).1 by omega] at hl
      have hE : brdE Q3 m R sp = 0 := by rw [he, hbr.1, hl]; simp
      have hH : (headOf (brd Q3 m R sp)).1 = seq := by rw [he, hbr.2 hl, h.there r i hr hi]; exact (h.enc.dat hr hi).head h.fit
      rw [if_neg hm, hE, hH, if_neg (by omega)]
      obtain ⟨t, h1, h2, h3⟩ := h.wh bad hb hs1 ss seq (fun sp' h' => hss sp' (by simp [h'])) (.inr rfl)
      exact ⟨t, h1, fun _ => h2 rfl, fun _ => h2 rfl⟩
theorem SegF.whole {m : G3} {R : Rk} {f : Nat → Bool} {seg : Nat} {seq : Int} {l : List BlkA} (h : SegF m R f seg seq l) (h1 : oneLost m f) (hm : m.2.2 ≠ 1) (hs1 : 1 ≤ seq) : sWhole Q3 m R seg = (seq, true, 0) := by
  have hbad : ∀ i : Nat, i < 3 → isBad Q3 m R i = lostS m f i := fun i hi => by
    have hrg : 0 ≤ (slotV Q3 m i).1 ∧ (slotV Q3 m i).1 < 4 := slot_range m i hi
    unfold isBad lostS Rk.failedB
    rw [if_pos (by rw [h.n]; omega), h.set.failed]
    simp [hm]
  have hb : ∀ i : Nat, i < 3 → (i : Int) ∉ badI Q3 m R → lostS m f i = false := fun i hi hn => by
    rw [mem_badI (show i < Q3.1.toNat from hi), hbad i hi] at hn
    simpa using hn
  have hle : (badL Q3 m R).length ≤ 1 := by
    unfold badL
    show ((List.range 3).filter (isBad Q3 m R)).length ≤ 1
    have e : ∀ i ∈ List.range 3, isBad Q3 m R i = lostS m f i := fun i hi => hbad i (List.mem_range.1 hi)
    rw [List.filter_congr e]
    have c01 := h1 0 1 (by decide) (by decide)
    have c02 := h1 0 2 (by decide) (by decide)
    have c12 := h1 1 2 (by decide) (by decide)
    simp only [List.range_succ, List.range_zero, List.nil_append, List.cons_append, List.filter_cons, List.filter_nil]
    cases g0 : lostS m f 0 <;> cases g1 : lostS m f 1 <;> cases g2 : lostS m f 2 <;> simp_all
  unfold sWhole
  have ht : thereE Q3 R seg = 0 := by
    unfold thereE
    rw [if_neg (by have := h.s12; show ¬ ¬ (0 ≤ (seg : Int) ∧ (seg : Int) < 12); omega), if_neg (by simp [h.set.off])]
  rw [if_neg (by simp [ht]), if_neg (by omega)]
  obtain ⟨t, e1, _, e3⟩ := h.wh (badI Q3 m R) hb hs1 (allS Q3 seg 0) 0 (fun sp hsp => by
    rw [allS3, List.mem_map] at hsp
    obtain ⟨t, ht, rfl⟩ := hsp
    have := List.mem_range.1 ht
    exact ⟨t / 3, t % 3, by omega, by omega, rfl⟩) (.inl rfl)
  rw [e1]
  refine congrArg (fun t => (t, true, (0 : Int))) (e3 ?_)
  refine Classical.byContradiction fun hno => ?_
  have hall : ∀ i, i < 3 → lostS m f (spt seg 0 i).1.toNat = true := fun i hi => by
    have hrg := spt_rng h.s12 (r := 0) (i := i) (by decide) hi
    refine Classical.byContradiction fun hf => hno ⟨spt seg 0 i, ?_, fun hmem => ?_⟩
    · rw [allS3, List.mem_map]
      refine ⟨i, List.mem_range.2 (by omega), ?_⟩
      rw [Nat.div_eq_of_lt hi, Nat.mod_eq_of_lt hi]
    · rw [show (spt seg 0 i).1 = (((spt seg 0 i).1.toNat : Nat) : Int) by omega, mem_badI (show (spt seg 0 i).1.toNat < 3 by omega), hbad _ (by omega)] at hmem
      exact hf hmem
  have r0 := (spt_rng h.s12 (r := 0) (i := 0) (by decide) (by decide)).1
  have r1 := (spt_rng h.s12 (r := 0) (i := 1) (by decide) (by decide)).1
  exact spt_slot_ne (r := 0) (i := 0) (j := 1) (by decide) (by decide) (by decide) h.s12 (by decide) (h1 _ _ (by omega) (by omega) (hall 0 (by decide)) (hall 1 (by decide)))
end Go.Proofs.Ytldmeimebebllaa
namespace Go.Proofs.Ytldmeimebebllaa
open Go.Mo
set_option linter.unusedVariables false
variable {g : Fr} {cv : CV}
theorem EncD.of_fits {seq : Int} {l : List BlkA} (hs : fitsN 4 seq) (hf : fitsL l) (hb : ∀ c ∈ l, Byts c.data) : EncD seq l := ⟨encAll_iff.2 fun k hk => by
  have hfit : fitC (blkAt l k) := by
    unfold blkAt
    by_cases h : k < l.length
    · rw [List.getD_eq_getElem?_getD, List.getElem?_eq_getElem h]; exact hf.2 _ (List.getElem_mem h)
    · rw [List.getD_eq_getElem?_getD, List.getElem?_eq_none (by omega)]; exact ⟨by simp [BlkA.nil], by simp [BlkA.nil], by simp [BlkA.nil]⟩
  have h65 : ((256 ^ 2 : Nat) : Int) = 65536 := rfl
  exact ⟨hs, ⟨hfit.2.1.1, by rw [h65]; have := hfit.2.1.2; omega⟩, ⟨hfit.2.2.1, by rw [h65]; have := hfit.2.2.2; omega⟩, hfit.1⟩, hb⟩
theorem fits4 {seq : Int} (h : 1 ≤ seq ∧ seq < 4294967296) : fitsN 4 seq := ⟨by omega, by
  have : ((256 ^ 4 : Nat) : Int) = 4294967296 := rfl
  rw [this]; exact h.2⟩
theorem calm_bad {m : G3} {R : Rk} (h : Calm R) (hm : m.2.2 ≠ 1) : badL Q3 m R = [] := by
  unfold badL
  rw [List.filter_eq_nil_iff]
  intro i _
  simp [isBad, h.failedB, hm]
theorem swrite_ok {m : G3} {R : Rk} {seg : Nat} {seq : Int} {l : List BlkA} (hm : m.2.2 ≠ 1) (hs : seg < 12) (hq : 1 ≤ seq ∧ seq < 4294967296) (hl : l.length ≤ 6) (h : EncD seq l) (hc : Calm R) (hn : R.n = 4) (hns : R.ns = 41) :
    swrite Q3 m R seg seq l = ((wrAll Q3 m (restW Q3 seg seq l 0) R).1, 0) := by
  have hw := seg_wrote (m := m) (seg := seg) hs h hc hn hns
  have h1 : ¬ (¬ ((0 : Int) ≤ (seg : Int) ∧ (seg : Int) < Q3.2.2) ∨ seq < 1 ∨ seq > 4294967295) := by
    show ¬ (¬ ((0 : Int) ≤ (seg : Int) ∧ (seg : Int) < 12) ∨ seq < 1 ∨ seq > 4294967295)
    omega
  have h2 : ¬ (encAll seq l (nBlk Q3) = false ∨ nBlk Q3 < l.length) := by
    rw [nBlk3, h.all]
    simp; omega
  unfold swrite
  rw [if_neg h1, if_neg h2, calm_bad hc hm, if_neg (by simp), if_neg (by rw [hw.1]; simp), calm_bad hw.2.1.calm hm, if_neg (by simp)]
theorem one_lost {m : G3} {f : Int} : oneLost m (fun j => decide (j = f.toNat)) := fun i j hi hj h1 h2 => by
  unfold lostS at h1 h2
  simp only [decide_eq_true_eq] at h1 h2
  have r1 := slot_range m i hi
  have r2 := slot_range m j hj
  exact slot_inj m hi hj (by
    have : (slotV (3, 3, 12) m i).1.toNat = (slotV (3, 3, 12) m j).1.toNat := h1.trans h2.symm
    omega)
theorem disksL3 (m : G3) : ∃ d xs, disksL Q3 m = d :: xs ∧ ∀ d' ∈ d :: xs, 0 ≤ d' ∧ d' < ((4 : Nat) : Int) := by
  have h := disks_range m
  cases hd : disksL Q3 m with
  | nil => 
    have : (disksL Q3 m).length = 0 := by rw [hd]; rfl
    unfold disksL at this
    rw [show Q3.1.toNat = 3 from rfl, List.length_append, List.length_map, List.length_range] at this
    omega
  | cons d xs =>
    refine ⟨d, xs, rfl, ?_⟩
    rw [← hd]; exact h
end Go.Proofs.Ytldmeimebebllaa
namespace Go.Proofs.Ytldmeimebebllaa
open Go.Mo
set_option linter.unusedVariables false
variable {g : Fr} {cv : CV}
def m0 : G3 := (0, 0, 0)
theorem open0 : OpenB 4 41 Q3 m0 = true := by decide
end Go.Proofs.Ytldmeimebebllaa



namespace Go.Proofs.Ytldmeimebebllaa
open Go.Mo
set_option linter.unusedVariables false
variable {g : Fr} {cv : CV}
theorem Armed.doom {R : Rk} {f : Nat → Bool} (h : Armed R f) {k : Int} (hk : 0 ≤ k ∧ k < R.n) : Armed (R.doom k 0) (fun j => f j || decide (j = k.toNat)) := by
  unfold Rk.doom
  rw [if_neg (by omega)]
  refine ⟨h.off, h.count, fun j => ?_, fun j => ?_⟩
  · simp only [Rk.setD]; split <;> simp [h.failed]
  · simp only [Rk.setD]
    by_cases hj : j = k.toNat
    · subst hj; simp [maxI]
    · simp [hj, h.counts]
end Go.Proofs.Ytldmeimebebllaa

namespace Go.Proofs.Ytldmeimebebllaa
open Go.Mo
set_option linter.unusedVariables false
variable {g : Fr} {cv : CV}
def sndRow (q m : G3) (R : Rk) (seg seq : Int) (r : Nat) : Bool := (goodV q m R (parSpot q seg r) seq).2 && ((othV q m R (parSpot q seg r) seq (spotsL q seg r)).2 && decide ((goodV q m R (parSpot q seg r) seq).1 = (othV q m R (parSpot q seg r) seq (spotsL q seg r)).1))
theorem spotsL_last (q : G3) (seg : Int) (r : Nat) : (spotsL q seg r)[(q.1 - 1).toNat]? = some (parSpot q seg r) := by
  unfold spotsL
  rw [List.getElem?_append_right (by simp)]
  simp
end Go.Proofs.Ytldmeimebebllaa
