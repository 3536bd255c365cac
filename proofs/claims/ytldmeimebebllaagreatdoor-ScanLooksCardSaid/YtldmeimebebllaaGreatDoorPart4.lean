/-
  A part of the proof: predicate transformers over the model, and a separation logic over them; what functions of the program do.
-/
import Derived.Test.YtldmeimebebllaaGreatDoorPart3
import Derived.ChangeReads
import Derived.ReadAgain
import Derived.Deep.Frames
import Derived.RowKit3
import Derived.ChangeSame
import Derived.ChangeSlices
import Derived.SizedLaws
import Derived.Deep.Slices
set_option linter.unusedSimpArgs false
namespace Go.Mo
open Go.RowKit
set_option linter.unusedVariables false
def full (W : World) : Hp := fun i => (W.heap[i]?).map fun ob => (ob, true)
def fullF (W : World) : Fr := ⟨full W, W.os, W.output⟩
theorem full_own (W : World) : Own W (full W) (fullF W) := by
  have hok : Hp.ok (full W) W := fun x ob r h => by
    simp only [full, Option.map_eq_some_iff, Prod.mk.injEq] at h
    obtain ⟨ob', h, rfl, _⟩ := h
    exact h
  refine ⟨fun x => ?_, hok, hok, rfl, rfl⟩
  cases h : full W x with
  | none => exact .inl rfl
  | some p =>
    obtain ⟨ob, r⟩ := p
    right; right
    simp only [full, Option.map_eq_some_iff, Prod.mk.injEq] at h
    obtain ⟨ob', h, rfl, rfl⟩ := h
    exact ⟨ob', rfl, by simp [fullF, full, h]⟩
structure Kept (W w' : World) : Prop where
  frame : W.keptBut w' (fun _ => False)
  block : ∀ (i : Nat) ob, W.heap[i]? = some ob → w'.heap[i]? = some ob
theorem kept_of_own {W w' : World} {a : Hp} (h : Own w' a (fullF W)) : Kept W w' := by
  have hh : ∀ (i : Nat) ob, W.heap[i]? = some ob → w'.heap[i]? = some ob := fun i ob hi => h.2.2.1 i ob true (by simp [fullF, full, hi])
  refine ⟨⟨h.2.2.2.os, h.2.2.2.out, fun i hi => ?_⟩, hh⟩
  rw [hh i _ (Array.getElem?_eq_getElem hi), Array.getElem?_eq_getElem hi]
  cases W.heap[i] with
  | cells c t fr => exact ⟨rfl, rfl, rfl, fun _ _ => rfl⟩
  | map es clock => exact .inr ⟨rfl, rfl⟩
  | _ => rfl
theorem Kept.same {W w' : World} (h : Kept W w') {b : Nat} (hb : b < W.heap.size) : w'.heap[b]? = W.heap[b]? :=
  (h.block b _ (Array.getElem?_eq_getElem hb)).trans (Array.getElem?_eq_getElem hb).symm
open Go.ChangeShapes Go.WideShapes in
theorem post_of_kept {H : Type} {enc : TypeId × Value → H} {P : Program} {f : Func} {s : ChangeSpec} {apart fresh handsOn again : Bool} {W W' : World} {args : Array Value} {v : Value} {ds gs : List (DataW H)} {before pa pv : List MemPlace}
    (hW : DataW.Whole enc P f.params.toList s.vars apart W args.toList ds gs before)
    (hres : ∀ (b : Nat) (sp : Nat → Bool) (hd : Bool), DataW.TrodAll enc P W' b sp hd f.resultTypes.toList (v.resultList f.resultTypes.size) (s.fn H (ds ++ gs)).results [])
    (hargs : ∀ sp : Nat → Bool, (∀ p ∈ before, sp p.block = true) → DataW.TrodAll enc P W' 0 sp true f.params.toList args.toList (s.fn H (ds ++ gs)).args pa)
    (hvars : ∀ sp : Nat → Bool, (∀ p ∈ before, sp p.block = true) → DataW.TrodVars enc P W' sp s.vars (s.fn H (ds ++ gs)).vars pv)
    (hps : before = pa ++ pv) (hk : Kept W W')
    (hok : ∀ (j : Nat) (t : TypeId) (r : Value), f.resultTypes[j]? = some t → (v.resultList f.resultTypes.size)[j]? = some r → Value.okWide P W' .any 0 t r) :
    s.post enc P f apart fresh handsOn again W args v W' := by
  have hold : ∀ p ∈ before, (fun b => decide (b < W.heap.size)) p.block = true := fun p hp => by simpa using hW.lt p hp
  refine ⟨ds, gs, before, [], pa, pv, hW, hres _ _ _, hargs _ hold, hvars _ hold, World.keptBut_mono (fun p hp => hp.elim) hk.frame, fun _ => ?_⟩
  have hlt := hW.lt
  obtain ⟨_, _, _, _, _, hz, hn⟩ := hW
  refine ⟨hok, _, _, ([] ++ pa) ++ pv, ⟨[] ++ pa, pv, trodAll_append (hargs _ (fun _ _ => rfl)) (hres _ _ _), hvars _ (fun _ _ => rfl), rfl, ?_, ?_⟩, ?_⟩
  · intro b off hp
    have hp' : MemPlace.cell b off ∈ before := by rw [hps]; simpa using hp
    have hb : b < W.heap.size := hlt _ hp'
    have := hz b off hp'
    unfold World.frozen? at this ⊢
    rw [show W'.heap[(⟨b, off, none⟩ : Addr).block]? = W.heap[(⟨b, off, none⟩ : Addr).block]? from hk.same hb]
    exact this
  · intro ha
    have := hn ha
    rw [hps] at this
    simpa using this
  · intro p hp _
    rw [hps]
    simpa using hp
theorem wps_run {m : M Bool} {H : HP} (h : ∀ g, wps g H m fun b => pr (b = true)) (W : World) (hH : H.p (full W)) : m (fun b w' => b = true ∧ Kept W w') W :=
  h (fullF W) W (full W) _ (full_own W) hH fun x w' a' ho hb => ⟨hb, kept_of_own ho⟩
theorem calls_law {P : Program} {f : FuncId} {args : Array Value} {W : World} (h : Calls P f args W (RetPost Value.bool fun b w' => b = true ∧ Kept W w')) : Calls P f args W fun e w' => e = .returned (.bool true) ∧ Kept W w' :=
  h.mono fun e w' he => by
    cases e with
    | returned v =>
      obtain ⟨b, rfl, rfl, hg⟩ := he
      exact ⟨rfl, hg⟩
    | panicked c => exact he.elim
    | outgrown => exact he.elim
theorem trodAll_carry {H : Type} {enc : TypeId × Value → H} {P : Program} {w w' : World} {base : Nat} {spare : Nat → Bool} {held : Bool} : ∀ {ts : List TypeId} {vs : List Value} {ds : List (DataW H)} {ps : List MemPlace},
    DataW.TrodAll enc P w base spare held ts vs ds ps → (∀ p ∈ ps, w.sameAt w' p) → DataW.TrodAll enc P w' base spare held ts vs ds ps
  | [], [], [], _, h, _ => h
  | _ :: _, _ :: _, _ :: _, _, ⟨p, q, ⟨n, h1⟩, h2, e⟩, hs => ⟨p, q, ⟨n, DataW.trod_carry n _ _ _ h1 fun x hx => hs x (by rw [e]; exact List.mem_append_left _ hx)⟩,
      trodAll_carry h2 (fun x hx => hs x (by rw [e]; exact List.mem_append_right _ hx)), e⟩
theorem args_again {H : Type} {enc : TypeId × Value → H} {P : Program} {W W' : World} (hg : Kept W W') (kids : Kids P (· < P.types.size)) (fulls : ∀ t e, t < P.types.size → P.underlying t = some (.slice e) → 0 < P.cellsOf e)
    {ts : List TypeId} (hts : ∀ t ∈ ts, t < P.types.size) {vs : List Value} {ds : List (DataW H)} {ps : List MemPlace} (h : DataW.TrodAll enc P W 0 (fun _ => true) true ts vs ds ps) {sp : Nat → Bool} (hs : ∀ p ∈ ps, sp p.block = true) (hlt : ∀ p ∈ ps, p.block < W.heap.size) :
    DataW.TrodAll enc P W' 0 sp true ts vs ds ps :=
  trodAll_carry (DataW.TrodAll.respare kids fulls hts h hs) fun p hp => by
    have hb := hlt p hp
    have he := hg.same hb
    cases p with
    | cell b o => simp only [World.sameAt, World.cell?]; rw [show W'.heap[b]? = W.heap[b]? from he]
    | map b => exact he
end Go.Mo
namespace Go.Proofs.Ytldmeimebebllaa
open Go.Mo
set_option linter.unusedVariables false
theorem rsl_full {W : World} {a : Addr} {len cap : Nat} {cs : List Value} (hl : len ≤ cap) (hz : cs.length = len) (hc : ∀ i, i < len → W.cell? (a.add i) = cs[i]?) : (rsl 1 ⟨some a, len, cap⟩ cs).p (full W) := by
  by_cases h0 : len = 0
  · left
    exact ⟨h0, List.eq_nil_of_length_eq_zero (by omega)⟩
  · right
    have hc0 := hc 0 (by omega)
    have ha0 : a.add 0 = a := by simp [Addr.add]
    rw [ha0, List.getElem?_eq_getElem (by omega)] at hc0
    have hsp := World.cell?_spot hc0
    obtain ⟨b, off, sp⟩ := a
    simp only at hsp
    subst hsp
    unfold World.cell? at hc0
    cases hb : W.heap[b]? with
    | none => simp [hb] at hc0
    | some ob =>
      cases ob with
      | cells c e f =>
        refine ⟨⟨b, off, none⟩, c.toList, ent_prr (A := ro b c.toList) (B := ro b c.toList) ⟨rfl, by simpa using hz, hl, ?_⟩ (Ent.refl _) _ ⟨e, f, true, by simp [full, hb]⟩⟩
        apply List.ext_getElem?
        intro i
        simp only [Nat.mul_one]
        rw [List.getElem?_take]
        by_cases hi : i < len
        · rw [if_pos hi, List.getElem?_drop, ← hc i hi, Addr.add_mk]
          simp [World.cell?, hb]
        · rw [if_neg hi, List.getElem?_eq_none (by omega)]
      | _ => simp [hb] at hc0
end Go.Proofs.Ytldmeimebebllaa
namespace Go.Proofs.Ytldmeimebebllaa
open Go.Mo
set_option linter.unusedVariables false
theorem wf_u8 {n : Int} (h : (Lit.int .u8 n).wf = true) : 0 ≤ n ∧ n < 256 := by
  simp only [Lit.wf, Bool.and_eq_true, decide_eq_true_eq] at h
  have h1 : IntKind.u8.min = 0 := rfl
  have h2 : IntKind.u8.max = 255 := rfl
  omega
theorem full_both {W : World} {A B : HP} (ha : A.p (full W)) (hb : B.p (full W)) : (A * B).p (full W) := by
  refine ⟨full W, full W, fun x => ?_, ?_, ha, hb⟩
  · cases h : full W x with
    | none => exact .inl rfl
    | some p =>
      right; right
      simp only [full, Option.map_eq_some_iff] at h
      obtain ⟨ob, _, rfl⟩ := h
      exact ⟨ob, rfl, rfl⟩
  · rw [Hp.un_self]; exact Hp.le_refl _
end Go.Proofs.Ytldmeimebebllaa
namespace Go.Proofs.Ytldmeimebebllaa
open Go.Mo Go.ChangeShapes Go.Deep 
set_option linter.unusedVariables false
theorem rsl_fullZ {W : World} {z : Nat} {a : Addr} {len cap : Nat} {cs : List Value} (hl : len ≤ cap) (hz : cs.length = len * z) (hzp : 0 < z) (hc : ∀ i, i < len * z → W.cell? (a.add i) = cs[i]?) : (rsl z ⟨some a, len, cap⟩ cs).p (full W) := by
  by_cases h0 : len = 0
  · left
    exact ⟨h0, List.eq_nil_of_length_eq_zero (by rw [hz, h0, Nat.zero_mul])⟩
  · right
    have hpos : 0 < len * z := Nat.mul_pos (by omega) hzp
    have hc0 := hc 0 hpos
    have ha0 : a.add 0 = a := by simp [Addr.add]
    rw [ha0, List.getElem?_eq_getElem (by omega)] at hc0
    have hsp := World.cell?_spot hc0
    obtain ⟨b, off, sp⟩ := a
    simp only at hsp
    subst hsp
    unfold World.cell? at hc0
    cases hb : W.heap[b]? with
    | none => simp [hb] at hc0
    | some ob =>
      cases ob with
      | cells c e f =>
        refine ⟨⟨b, off, none⟩, c.toList, ent_prr (A := ro b c.toList) (B := ro b c.toList) ⟨rfl, by simpa using hz, hl, ?_⟩ (Ent.refl _) _ ⟨e, f, true, by simp [full, hb]⟩⟩
        apply List.ext_getElem?
        intro i
        rw [List.getElem?_take]
        by_cases hi : i < len * z
        · rw [if_pos hi, List.getElem?_drop, ← hc i hi, Addr.add_mk]
          simp [World.cell?, hb]
        · rw [if_neg hi, List.getElem?_eq_none (by omega)]
      | _ => simp [hb] at hc0
section
variable {H : Type} {enc : TypeId × Value → H} {P : Program} {W : World} {base : Nat}
structure Flds (enc : TypeId × Value → H) (P : Program) (W : World) (base n : Nat) (fs : Array Field) (cs : List Value) (xs : List (DataW H × List MemPlace)) : Prop where
  each : ∀ (i : Nat) (f : Field), fs[i]? = some f → DataW.trod enc P W base (fun _ => true) true n f.type ((cs.drop f.offset).take (P.cellsOf f.type)) = xs[i]?
  len : xs.length = fs.size
theorem one_of {cs : List Value} {o : Nat} {v : Value} (h : (cs.drop o).take 1 = [v]) : cs[o]? = some v := by
  have := congrArg (fun l => l[0]?) h
  simpa using this
theorem Flds.int {n : Nat} {fs : Array Field} {cs : List Value} {xs : List (DataW H × List MemPlace)} (h : Flds enc P W base n fs cs xs) (i : Nat) {f : Field} (hf : fs[i]? = some f) (hu : P.underlying f.type = some (.int .i64)) (hc : P.cellsOf f.type = 1) :
    ∃ q : Int, cs[f.offset]? = some (.int .i64 q) ∧ (Lit.int .i64 q).wf = true := by
  have h1 := h.each i f hf
  rw [hc] at h1
  have hi : i < xs.length := by rw [h.len]; exact (Array.getElem?_eq_some_iff.1 hf).1
  rw [List.getElem?_eq_getElem hi] at h1
  obtain ⟨q, hq, _, hw⟩ := DataW.trod_int hu h1
  exact ⟨q, one_of hq, hw⟩
theorem Flds.slice {n : Nat} {fs : Array Field} {cs : List Value} {xs : List (DataW H × List MemPlace)} (h : Flds enc P W base n fs cs xs) (i : Nat) {f : Field} (hf : fs[i]? = some f) {e : TypeId} {k : IntKind} (hu : P.underlying f.type = some (.slice e)) (hc : P.cellsOf f.type = 1)
    (he : P.underlying e = some (.int k)) (hce : P.cellsOf e = 1) (hbe : 0 < P.bytesOf e) (hw : ∀ y, xs[i]? = some y → ∀ q ∈ y.1.weights P f.type, q ≤ reachBytes) :
    ∃ (s : Slc) (b : List Int), cs[f.offset]? = some (.slice s.base s.len s.cap) ∧ (rsl 1 s (b.map (Value.int k))).p (full W) ∧ (∀ q ∈ b, (Lit.int k q).wf = true) ∧ b.length ≤ 140737488355328 := by
  have h1 := h.each i f hf
  rw [hc] at h1
  have hi : i < xs.length := by rw [h.len]; exact (Array.getElem?_eq_some_iff.1 hf).1
  rw [List.getElem?_eq_getElem hi] at h1
  have hwi := hw _ (List.getElem?_eq_getElem hi)
  rcases open_ints hu he hce h1 with ⟨hcs, hx⟩ | ⟨a, len, cap, zs, hcs, hba, hle, hcap, hzl, hx, hcell, hwf⟩
  · exact ⟨⟨none, 0, 0⟩, [], one_of hcs, .inl ⟨rfl, rfl⟩, by simp, by simp⟩
  · have hzl' : zs.length = cap := by simpa using hzl
    refine ⟨⟨some a, len, cap⟩, zs.take len, one_of hcs, ?_, fun q hq => hwf q (List.mem_of_mem_take hq), ?_⟩
    · refine rsl_full hle (by simp; omega) fun j hj => ?_
      rw [hcell j (by omega), List.getElem?_map, List.getElem?_take, if_pos hj, List.getElem?_eq_getElem (by omega)]
      simp [List.getD_eq_getElem?_getD, List.getElem?_eq_getElem (show j < zs.length by omega)]
    · rw [hx] at hwi
      have := hwi (((lits (H := H) k (zs.take len)).length + (lits (H := H) k (zs.drop len)).length) * P.bytesOf e) (by simp [DataW.weights, hu])
      have h2 : reachBytes = 140737488351232 := rfl
      have h3 : (lits (H := H) k (zs.take len)).length + (lits (H := H) k (zs.drop len)).length = zs.length := by simp [lits]; omega
      rw [h3] at this
      have h4 : zs.length * 1 ≤ zs.length * P.bytesOf e := Nat.mul_le_mul_left _ hbe
      simp only [List.length_take]; omega
theorem all_weights {e : TypeId} {ds : List (DataW H)} {d : DataW H} (hd : d ∈ ds) {q : Nat} (hq : q ∈ d.weights P e) : q ∈ DataW.weightsAll P e ds := by
  induction ds with
  | nil => simp at hd
  | cons x ds ih =>
    simp only [DataW.weightsAll, List.mem_append]
    rcases List.mem_cons.1 hd with rfl | hd
    · exact .inl hq
    · exact .inr (ih hd)
theorem sized_arg {ts : List TypeId} {ds : List (DataW H)} {j : Nat} {t : TypeId} {d : DataW H} (h : (DataW.weightsEach P ts ds).all (· ≤ reachBytes) = true) (ht : ts[j]? = some t) (hd : ds[j]? = some d) : ∀ q ∈ d.weights P t, q ≤ reachBytes := fun q hq => by
  have := List.all_eq_true.1 h _ (DataW.weights_mem_each ht hd q hq)
  simpa using this
instance : Inhabited CallA := ⟨⟨0, 0, 0, ⟨none, 0, 0⟩, [], ⟨none, 0, 0⟩, []⟩⟩
theorem open_structs {γ : Type} [Inhabited γ] {cells : γ → List Value} {z : Nat} {ok : γ → Prop} {t e : TypeId} {fuel : Nat} {cs : List Value} {x : DataW H × List MemPlace} (hzp : 0 < z) (hcl : ∀ c, (cells c).length = z) (ht : P.underlying t = some (.slice e)) (hz : P.cellsOf e = z)
    (helem : ∀ (n : Nat) (cs : List Value) (x : DataW H × List MemPlace), DataW.trod enc P W base (fun _ => true) true n e cs = some x → (∀ q ∈ x.1.weights P e, q ≤ reachBytes) → ∃ c, cs = cells c ∧ ok c)
    (h : DataW.trod enc P W base (fun _ => true) true fuel t cs = some x) (hs : ∀ q ∈ x.1.weights P t, q ≤ reachBytes) :
    ∃ (s : Slc) (l : List γ), cs = [.slice s.base s.len s.cap] ∧ (rsl z s (l.flatMap cells)).p (full W) ∧ l.length = s.len ∧ ∀ c ∈ l, ok c := by
  rcases open_slice ht h with ⟨hcs, hx⟩ | ⟨a, len, cap, m, n, D, Pl, hcs, hb, hle, hcap, hm, hx, hel⟩
  · exact ⟨⟨none, 0, 0⟩, [], hcs, .inl ⟨rfl, rfl⟩, rfl, by simp⟩
  · have hm' : m = cap := by simpa using hm
    have hel' : ∀ i, i < len → ∃ c : γ, W.cells? base (a.add (i * z)) z = some (cells c) ∧ ok c := by
      intro i hi
      obtain ⟨cs', h1, h2⟩ := hel i (by omega)
      rw [hz] at h1
      obtain ⟨c, hc, hok⟩ := helem n cs' _ h2 (fun q hq => by
        refine hs q ?_
        rw [hx]
        simp only [DataW.weights, ht]
        refine List.mem_cons_of_mem _ (List.mem_append_left _ (all_weights (d := D i) ?_ hq))
        exact List.mem_map.2 ⟨i, List.mem_range.2 hi, rfl⟩)
      exact ⟨c, hc ▸ h1, hok⟩
    obtain ⟨f, hf⟩ := choose_lt hel'
    refine ⟨⟨some a, len, cap⟩, (List.range len).map f, hcs, ?_, by simp, fun c hc => ?_⟩
    · refine rsl_fullZ hle (by rw [flat_len hcl]; simp) hzp fun i hi => ?_
      have hq : i / z < len := (Nat.div_lt_iff_lt_mul hzp).2 hi
      have hr : i % z < z := Nat.mod_lt _ hzp
      obtain ⟨_, hlen, hcell⟩ := World.cells?_some (hf (i / z) hq).1
      have hc := hcell (i % z) hr
      rw [Addr.add_add] at hc
      have hsplit : i / z * z + i % z = i := by rw [Nat.mul_comm]; exact Nat.div_add_mod i z
      rw [hsplit] at hc
      rw [hc]
      have hg := flat_get hcl (l := (List.range len).map f) (n := i / z) (j := i % z) (c := f (i / z)) (by rw [List.getElem?_map, List.getElem?_range hq]; rfl) hr
      rw [hsplit] at hg
      exact hg.symm
    · obtain ⟨i, hi, rfl⟩ := List.mem_map.1 hc
      exact (hf i (List.mem_range.1 hi)).2
end
end Go.Proofs.Ytldmeimebebllaa
namespace Go.Proofs.Ytldmeimebebllaa
open Go.Mo Go.ChangeShapes Go.Deep 
set_option linter.unusedVariables false
section
variable {H : Type} {enc : TypeId × Value → H} {P : Program} {W : World} {base : Nat}
instance : Inhabited CallB := ⟨⟨0, 0, 0, ⟨none, 0, 0⟩, [], (0, 0, 0)⟩⟩
end
end Go.Proofs.Ytldmeimebebllaa
namespace Go.Proofs.Ytldmeimebebllaa
open Go.Mo Go.ChangeShapes Go.Deep 
set_option linter.unusedVariables false
section
variable {H : Type} {enc : TypeId × Value → H} {P : Program} {W : World} {base : Nat}
instance : Inhabited BlkA := ⟨BlkA.nil⟩
theorem wf_byts {b : List Int} (h : ∀ q ∈ b, (Lit.int .u8 q).wf = true) : Byts b := fun n hn => wf_u8 (h n hn)
end
end Go.Proofs.Ytldmeimebebllaa
namespace Go.Proofs.Ytldmeimebebllaa
open Go.Mo Go.ChangeShapes Go.Deep 
set_option linter.unusedVariables false
section
variable {H : Type} {enc : TypeId × Value → H} {P : Program} {W : World} {base : Nat}
instance : Inhabited (Slc × List Int) := ⟨(⟨none, 0, 0⟩, [])⟩
theorem open_byteRows {t e eb : TypeId} {fuel : Nat} {cs : List Value} {x : DataW H × List MemPlace} (ht : P.underlying t = some (.slice e)) (hz : P.cellsOf e = 1) (he : P.underlying e = some (.slice eb)) (h3 : P.underlying eb = some (.int .u8) ∧ P.cellsOf eb = 1 ∧ 0 < P.bytesOf eb)
    (h : DataW.trod enc P W base (fun _ => true) true fuel t cs = some x) (hs : ∀ q ∈ x.1.weights P t, q ≤ reachBytes) :
    ∃ (s : Slc) (l : List (Slc × List Int)), cs = [.slice s.base s.len s.cap] ∧ (rowsP s l).p (full W) := by
  obtain ⟨s, l, hcs, hr, hlen, hok⟩ := open_structs (γ := Slc × List Int) (cells := fun x => [vS x.1]) (z := 1) (ok := fun c => (Byts c.2 ∧ c.2.length ≤ 140737488355328) ∧ (byt c.1 c.2).p (full W)) (by decide) (fun _ => rfl) ht hz (fun n cs x hx hw => by
    rcases open_ints he h3.1 h3.2.1 hx with ⟨hcs, _⟩ | ⟨a, len, cap, zs, hcs, hba, hle, hcap, hzl, hx2, hcell, hwf⟩
    · exact ⟨(⟨none, 0, 0⟩, []), hcs, ⟨fun n hn => by simp at hn, by simp⟩, .inl ⟨rfl, rfl⟩⟩
    · have hzl' : zs.length = cap := by simpa using hzl
      refine ⟨(⟨some a, len, cap⟩, zs.take len), hcs, ⟨wf_byts fun q hq => hwf q (List.mem_of_mem_take hq), ?_⟩, ?_⟩
      · rw [hx2] at hw
        have := hw (((lits (H := H) .u8 (zs.take len)).length + (lits (H := H) .u8 (zs.drop len)).length) * P.bytesOf eb) (by simp [DataW.weights, he])
        have h2 : reachBytes = 140737488351232 := rfl
        have h4 : (lits (H := H) .u8 (zs.take len)).length + (lits (H := H) .u8 (zs.drop len)).length = zs.length := by simp [lits]; omega
        rw [h4] at this
        have h5 : zs.length * 1 ≤ zs.length * P.bytesOf eb := Nat.mul_le_mul_left _ h3.2.2
        simp only [List.length_take]; omega
      · refine rsl_full hle (by simp [bv]; omega) fun j hj => ?_
        rw [hcell j (by omega), bv, List.getElem?_map, List.getElem?_take, if_pos hj, List.getElem?_eq_getElem (by omega)]
        simp [List.getD_eq_getElem?_getD, List.getElem?_eq_getElem (show j < zs.length by omega)]) h hs
  refine ⟨s, l, hcs, ?_⟩
  have hfl : l.flatMap (fun x : Slc × List Int => [vS x.1]) = l.map fun x => vS x.1 := by
    clear hcs hr hlen hok
    induction l with
    | nil => rfl
    | cons y l ih => rw [List.flatMap_cons, ih]; rfl
  rw [hfl] at hr
  exact full_both (full_both (A := pr _) (fun x hx => (hok x hx).1) hr) fun x hx => (hok x hx).2
end
end Go.Proofs.Ytldmeimebebllaa
