/- The verified condition generator: definitions and lemmas about the model; no program in sight. Conditions: none beyond what each theorem states. -/
import Derived.Test.YtagnaoagicgmeaaDoorVc7
import Derived.Carry
import Derived.ChangeSame
import Derived.OpenShut
import Derived.Deep.Slices
import Derived.Deep.Fields
import Derived.Deep.Grids
set_option linter.all false
section
namespace Go.VC
open Go Go.RowKit Go.ChangeShapes Go.WideShapes
def e0 : Env := ⟨fun _ => none, fun _ => False⟩
theorem own0 {b : Nat} : ¬ Own e0 [] b := by
  rintro (h | ⟨c, k, h, _⟩)
  · exact h
  · simp at h
theorem rep0 (w : World) : Rep w (OwnC e0 []) e0 [] w :=
  ⟨WOk.refl _ _, fun c k h => by simp at h, fun c c' k k' b h => by simp at h, fun c k b h => by simp at h, fun b h => h.elim⟩
theorem law_calls {P : Program} {G : Wd} {f : FuncId} {C : Contract} (hOk : Ok P G f C) {w : World} (hG : G.p w (Own e0 [])) {args : List AV} {vals : Array Value} (ha : VArgs w e0 [] args vals)
    (hs : ∀ K : AV → List Chunk → Prop, K (.s (.d (.v (.bool true)))) [] → C.spec args [] K) : Calls P f vals w fun e w' => e = .returned (.bool true) ∧ Below w.heap.size w w' := by
  refine (hOk.2 w e0 [] args vals (fun av _ => av = .s (.d (.v (.bool true)))) (rep0 w) hG ha (hs _ rfl)).mono ?_
  rintro e w' ⟨v, av, ρ', ch', rfl, rfl, hR, hv, hE, _⟩
  have hb := rdB hv
  subst hb
  exact ⟨rfl, hR.wok.os, hR.wok.tape, hR.wok.output, hR.wok.size, fun k hk => (hE.keeps k hk own0).1⟩
section
variable {H : Type} {enc : TypeId × Value → H} {P : Program} {w : World}
theorem trodAll_below (hl : laidOutB P = true) {W W' : World} (hb : Below W.heap.size W W') : ∀ {ts : List TypeId} {vs : List Value} {ds : List (DataW H)} {ps : List MemPlace},
    (∀ t ∈ ts, P.readableRec t = true ∧ t < P.types.size) → DataW.TrodAll enc P W 0 (fun _ => true) true ts vs ds ps → (∀ x ∈ ps, x.block < W.heap.size) → ∀ sp : Nat → Bool, (∀ x ∈ ps, sp x.block = true) →
    DataW.TrodAll enc P W' 0 sp true ts vs ds ps := by
  intro ts
  induction ts with
  | nil =>
    intro vs ds ps _ h _ sp _
    obtain ⟨rfl, rfl, rfl⟩ := trodAll_nil h
    rfl
  | cons t ts ih =>
    intro vs ds ps ht h hlt sp hsp
    obtain ⟨v, vs', d, ds', p, q, rfl, rfl, rfl, h1, h2⟩ := trodAll_cons h
    obtain ⟨hr, hrow⟩ := ht t (by simp)
    exact ⟨p, q, WideElems.Trod_stays hl hr hrow h1 (fun x hx => hb.same (hlt x (by simp [hx]))) (fun x hx => hsp x (by simp [hx])),
      ih (fun t' h' => ht t' (by simp [h'])) h2 (fun x hx => hlt x (by simp [hx])) sp (fun x hx => hsp x (by simp [hx])), rfl⟩
theorem law_post {f : Func} {s : ChangeSpec} {apart fresh handsOn again : Bool} {W W' : World} {args : Array Value} {ds gs : List (DataW H)} {before : List MemPlace} (hl : laidOutB P = true)
    (hW : DataW.Whole enc P f.params.toList s.vars apart W args.toList ds gs before) (hv : s.vars = []) (hfn : s.fn H (ds ++ gs) = { results := [.lit (.bool true)], args := ds })
    {tb : TypeId} (hres : f.resultTypes = #[tb]) (htb : P.underlying tb = some .bool) (hr : ∀ t ∈ f.params.toList, P.readableRec t = true ∧ t < P.types.size) (hb : Below W.heap.size W W') :
    s.post enc P f apart fresh handsOn again W args (.bool true) W' := by
  have hW0 := hW
  obtain ⟨p, q, hA, hV, rfl, hz, hn⟩ := hW
  rw [hv] at hV
  obtain ⟨rfl, rfl⟩ := trodVars_none hV
  simp only [List.append_nil] at hW0 hfn hz hn
  have hlt : ∀ x ∈ p, x.block < W.heap.size := fun x hx => hW0.lt x hx
  have hok : ∀ (j : Nat) (t : TypeId) (r : Value), f.resultTypes[j]? = some t → ((Value.bool true).resultList f.resultTypes.size)[j]? = some r → Value.okWide P W' .any 0 t r :=
    ok_one (by rw [hres]) rfl (okWide_bool_mk htb true)
  have hres' : ∀ (b : Nat) (sp : Nat → Bool) (hd : Bool), DataW.TrodAll enc P W' b sp hd f.resultTypes.toList ((Value.bool true).resultList f.resultTypes.size) [.lit (.bool true)] [] := by
    intro b sp hd
    rw [hres]
    exact trodAll_cons_mk (shut_bool htb true) trodAll_mk0
  have hargs : ∀ sp : Nat → Bool, (∀ x ∈ p, sp x.block = true) → DataW.TrodAll enc P W' 0 sp true f.params.toList args.toList ds p := fun sp hsp => trodAll_below hl hb hr hA hlt sp hsp
  refine ⟨ds, [], p, [], p, [], hW0, ?_, ?_, ?_, World.keptBut_mono (fun x hx => ⟨hx, by simpa using hx⟩) (hb.frame (· ∈ p)), fun _ => ⟨hok, ?_⟩⟩
  · simp only [List.append_nil]; rw [hfn]; exact hres' _ _ _
  · simp only [List.append_nil]; rw [hfn]; exact hargs _ (fun x hx => by simpa using hlt x hx)
  · simp only [List.append_nil]; rw [hfn, hv]; rfl
  · refine ⟨[.lit (.bool true)] ++ ds, [], p, ⟨p, [], ?_, ?_, by simp, ?_, ?_⟩, ?_⟩
    · exact trodAll_append (hargs _ (fun _ _ => rfl)) (hres' _ _ _)
    · rw [hv]; rfl
    · intro b off hp
      rw [hb.frozen (hlt _ hp)]
      exact hz b off hp
    · exact hn
    · intro x hx _; simpa using hx
theorem cell_int {t : TypeId} {k : IntKind} {n : Nat} {v : Value} {x : DataW H × List MemPlace} (ht : P.underlying t = some (.int k)) (h : DataW.trod enc P w 0 (fun _ => true) true n t [v] = some x) : ∃ m, v = .int k m ∧ k.min ≤ m ∧ m ≤ k.max := by
  obtain ⟨m, hm, _, hw⟩ := DataW.trod_int ht h
  simp only [List.cons.injEq, and_true] at hm
  simp only [Lit.wf, Bool.and_eq_true, decide_eq_true_eq] at hw
  exact ⟨m, hm, hw⟩
theorem cell_bool {t : TypeId} {n : Nat} {v : Value} {x : DataW H × List MemPlace} (ht : P.underlying t = some .bool) (h : DataW.trod enc P w 0 (fun _ => true) true n t [v] = some x) : ∃ b, v = .bool b := by
  obtain ⟨b, hb, _⟩ := DataW.trod_bool ht h
  simp only [List.cons.injEq, and_true] at hb
  exact ⟨b, hb⟩
theorem cell_str {t : TypeId} {n : Nat} {v : Value} {x : DataW H × List MemPlace} (ht : P.underlying t = some .string) (h : DataW.trod enc P w 0 (fun _ => true) true n t [v] = some x) : ∃ l : List UInt8, v = .string (str l) ∧ l.length ≤ 9223372036854775807 := by
  obtain ⟨s, hs, _, hl⟩ := DataW.trod_string ht h
  simp only [List.cons.injEq, and_true] at hs
  refine ⟨s.data.toList, ?_, ?_⟩
  · rw [hs]; rfl
  · unfold maxLen at hl
    have : s.data.toList.length = s.size := by simp
    omega
def bools (l : List Bool) : List (List D) := l.map fun n => [.v (.bool n)]
theorem ints_one {l : List Int} : ∀ e ∈ ints l, e.length = 1 := by
  intro e he
  simp only [ints, List.mem_map] at he
  obtain ⟨n, _, rfl⟩ := he
  rfl
theorem encB_one {l : List UInt8} : ∀ e ∈ encB l, e.length = 1 := by
  intro e he
  simp only [encB, List.mem_map] at he
  obtain ⟨n, _, rfl⟩ := he
  rfl
theorem cell_spot {t e : TypeId} {a : Addr} {len cap : Nat} {b0 : Nat} (ht : P.underlying t = some (.slice e)) (h : Cell.okWide P w .any b0 t (.slice (some a) len cap)) : a.spot = none := by
  simp only [Cell.okWide, ht, Cell.ok] at h
  exact h.2.2.2.1
theorem rd_row {l : List (List D)} {a : Addr} {len cap : Nat} (hs : a.spot = none) (hl : len ≤ cap) (hlen : l.length = len) (h1 : ∀ e ∈ l, e.length = 1) (hc : ∀ i d, getc l i 0 = some d → ∃ x, w.cell? (a.add i) = some x ∧ Rd w (Own e0 []) d x) :
    Rd w (Own e0 []) (.sl none 1 l) (.slice (some a) len cap) := by
  obtain ⟨b, off, spot⟩ := a
  simp only at hs
  subst hs hlen
  have hj : ∀ i j d, getc l i j = some d → j = 0 := by
    intro i j d hd
    simp only [getc] at hd
    cases hq : l[i]? with
    | none => simp [hq] at hd
    | some e =>
      simp [hq] at hd
      have := h1 e (List.mem_of_getElem? hq)
      have := (List.getElem?_eq_some_iff.1 hd).1
      omega
  refine .sl none 1 l b off cap (fun i j => ((w.cell? ⟨b, off + (i * 1 + j), none⟩).getD undef)) (by simp) hl h1 (fun i j d hd => ⟨own0, ?_⟩) (fun i j d hd => ?_)
  · have := hj i j d hd; subst this
    obtain ⟨x, hx, _⟩ := hc i d hd
    rw [add_plain] at hx
    simp [hx]
  · have := hj i j d hd; subst this
    obtain ⟨x, hx, hr⟩ := hc i d hd
    rw [add_plain] at hx
    simpa [hx] using hr
theorem cell_ints {t e : TypeId} {n b0 : Nat} {v : Value} {x : DataW H × List MemPlace} (ht : P.underlying t = some (.slice e)) (he : P.underlying e = some (.int .i64)) (hc : P.cellsOf e = 1) (hok : Cell.okWide P w .any b0 t v)
    (h : DataW.trod enc P w 0 (fun _ => true) true n t [v] = some x) : ∃ l : List Int, Rd w (Own e0 []) (.sl none 1 (ints l)) v ∧ l.length ≤ 9223372036854775807 ∧ ∀ y ∈ l, -9223372036854775808 ≤ y ∧ y ≤ 9223372036854775807 := by
  rcases open_ints ht he hc h with ⟨h1, _⟩ | ⟨a, len, cap, zs, h1, _, hl, hm, hz, _, hcell, hw⟩
  · simp only [List.cons.injEq, and_true] at h1
    subst h1
    exact ⟨[], .nil none 1 (by simp), by simp, by simp⟩
  · simp only [List.cons.injEq, and_true] at h1
    subst h1
    simp only [if_true] at hz
    unfold maxLen at hm
    refine ⟨zs.take len, rd_row (cell_spot ht hok) hl (by simp [ints]; omega) ints_one (fun i d hd => ?_), by simp; omega, fun y hy => ?_⟩
    · simp only [getc, ints, List.getElem?_map, List.getElem?_take] at hd
      split at hd
      · rename_i hi
        cases hq : zs[i]? with
        | none => simp [hq] at hd
        | some q =>
          simp [hq] at hd
          subst hd
          have := hcell i (by omega)
          rw [List.getD_eq_getElem?_getD, hq] at this
          exact ⟨_, this, .v _ rfl⟩
      · simp at hd
    · have := hw y (List.mem_of_mem_take hy)
      simpa [Lit.wf, IntKind.min, IntKind.max, IntKind.signed, IntKind.bits] using this
theorem cell_bytes {t e : TypeId} {n b0 : Nat} {v : Value} {x : DataW H × List MemPlace} (ht : P.underlying t = some (.slice e)) (he : P.underlying e = some (.int .u8)) (hc : P.cellsOf e = 1) (hok : Cell.okWide P w .any b0 t v)
    (h : DataW.trod enc P w 0 (fun _ => true) true n t [v] = some x) : ∃ l : List UInt8, Rd w (Own e0 []) (.sl none 1 (encB l)) v ∧ l.length ≤ 9223372036854775807 := by
  rcases open_ints ht he hc h with ⟨h1, _⟩ | ⟨a, len, cap, zs, h1, _, hl, hm, hz, _, hcell, hw⟩
  · simp only [List.cons.injEq, and_true] at h1
    subst h1
    exact ⟨[], .nil none 1 (by simp), by simp⟩
  · simp only [List.cons.injEq, and_true] at h1
    subst h1
    simp only [if_true] at hz
    unfold maxLen at hm
    refine ⟨(zs.take len).map fun y => UInt8.ofNat y.toNat, rd_row (cell_spot ht hok) hl (by simp [encB]; omega) encB_one (fun i d hd => ?_), by simp; omega⟩
    simp only [getc, encB, List.getElem?_map, List.getElem?_take] at hd
    split at hd
    · rename_i hi
      cases hq : zs[i]? with
      | none => simp [hq] at hd
      | some q =>
        simp [hq] at hd
        have hb := hw q (List.mem_of_getElem? hq)
        simp [Lit.wf, IntKind.min, IntKind.max, IntKind.signed, IntKind.bits] at hb
        have hq2 : ((q.toNat % 256 : Nat) : Int) = q := by omega
        have := hcell i (by omega)
        rw [List.getD_eq_getElem?_getD, hq] at this
        refine ⟨_, this, ?_⟩
        rw [← hd]
        have e1 : max q 0 % 256 = q := by omega
        rw [e1, Option.getD_some]
        exact Rd.v (.int .u8 q) (by rfl)
    · simp at hd
theorem cell_bools {t e : TypeId} {n b0 : Nat} {v : Value} {x : DataW H × List MemPlace} (ht : P.underlying t = some (.slice e)) (he : P.underlying e = some .bool) (hc : P.cellsOf e = 1) (hok : Cell.okWide P w .any b0 t v)
    (h : DataW.trod enc P w 0 (fun _ => true) true n t [v] = some x) : ∃ l : List Bool, Rd w (Own e0 []) (.sl none 1 (bools l)) v ∧ l.length ≤ 9223372036854775807 := by
  rcases Go.Deep.open_bools ht he hc h with ⟨h1, _⟩ | ⟨a, len, cap, B, h1, _, hl, hm, _, hcell⟩
  · simp only [List.cons.injEq, and_true] at h1
    subst h1
    exact ⟨[], .nil none 1 (by simp), by simp⟩
  · simp only [List.cons.injEq, and_true] at h1
    subst h1
    unfold maxLen at hm
    refine ⟨(List.range len).map B, rd_row (cell_spot ht hok) hl (by simp [bools]) (by simp [bools]) (fun i d hd => ?_), by simp; omega⟩
    simp only [getc, bools, List.getElem?_map] at hd
    cases hq : (List.range len)[i]? with
    | none => simp [hq] at hd
    | some q =>
      simp [hq] at hd
      have hi := List.getElem?_eq_some_iff.1 hq
      obtain ⟨h1, h2⟩ := hi
      simp at h1 h2
      subst h2
      subst hd
      exact ⟨_, hcell i (by omega), .v _ rfl⟩
theorem arg_one {t : TypeId} {v : Value} {d : DataW H} {p : List MemPlace} {b0 : Nat} (hok : Value.okWide P w .any b0 t v) (hk : ∀ cs, v ≠ .agg cs) (hcell : Value.okWide P w .any b0 t v = Cell.okWide P w .any b0 t v) (h : DataW.Trod enc P w 0 (fun _ => true) true t v d p) :
    Cell.okWide P w .any b0 t v ∧ ∃ n x, DataW.trod enc P w 0 (fun _ => true) true n t [v] = some x := by
  obtain ⟨n, hn⟩ := h
  refine ⟨hcell ▸ hok, n, (d, p), ?_⟩
  have : v.cells.toList = [v] := by cases v <;> first | rfl | exact absurd rfl (hk _)
  rw [this] at hn
  exact hn
theorem arg_agg {t : TypeId} {fs : Array Field} {v : Value} {d : DataW H} {p : List MemPlace} {b0 : Nat} (hs : P.underlying t = some (.struct fs)) (hone : Go.Deep.oneCellFields P fs = true) (hC : P.cellsOf t = fs.size)
    {tys : List TypeId} (hT : P.cellTypes P.depth t = some tys) (htys : tys = fs.toList.map (·.type)) (hok : Value.okWide P w .any b0 t v) (h : DataW.Trod enc P w 0 (fun _ => true) true t v d p) :
    ∃ cs : Array Value, v = .agg cs ∧ cs.size = fs.size ∧ ∀ (i : Nat) (f : Field), fs[i]? = some f → ∃ x n y, cs[i]? = some x ∧ Cell.okWide P w .any b0 f.type x ∧ DataW.trod enc P w 0 (fun _ => true) true n f.type [x] = some y := by
  subst htys
  simp only [Value.okWide, hs] at hok
  obtain ⟨cs, rfl, hsz, ts, hts, _, hcell⟩ := hok
  rw [hT] at hts
  cases hts
  rw [hC] at hsz
  obtain ⟨n, hn⟩ := h
  refine ⟨cs, rfl, hsz, fun i f hi => ?_⟩
  have hlt : i < fs.size := (Array.getElem?_eq_some_iff.1 hi).1
  obtain ⟨xs, m, _, _, hcl, hxl, hf⟩ := DataW.trod_struct hs hn
  obtain ⟨ho, hc1⟩ := Go.Deep.hone_of hone i f hi
  have g := hf i f hi
  rw [ho, hc1] at g
  have hcs : (Value.agg cs).cells.toList = cs.toList := rfl
  rw [hcs, Go.Deep.take1_drop cs.toList i undef (by simp; omega)] at g
  have hx : cs[i]? = some cs[i] := Array.getElem?_eq_getElem (by omega)
  refine ⟨cs[i], m, xs[i], hx, ?_, ?_⟩
  · obtain ⟨u, hu, hcu⟩ := hcell i _ hx
    have : (fs.toList.map (·.type))[i % (fs.toList.map (·.type)).length]? = some f.type := by
      rw [List.length_map, Array.length_toList, Nat.mod_eq_of_lt hlt, List.getElem?_map]
      have : fs.toList[i]? = some f := by simpa using hi
      rw [this]; rfl
    rw [this] at hu
    cases hu
    exact hcu
  · rw [List.getD_eq_getElem?_getD] at g
    have h2 : cs.toList[i]? = some cs[i] := by simp
    rw [h2] at g
    simp only [Option.getD_some] at g
    rw [g]
    exact List.getElem?_eq_getElem (by omega)
theorem arg_agg2 {t : TypeId} {fs : Array Field} {v : Value} {d : DataW H} {p : List MemPlace} {b0 : Nat} (hs : P.underlying t = some (.struct fs)) (hone : Go.Deep.oneCellFields P fs = true) (hC : P.cellsOf t = fs.size)
    {tys : List TypeId} (hT : P.cellTypes P.depth t = some tys) (htys : tys = fs.toList.map (·.type)) (hok : Value.okWide P w .any b0 t v) (h : DataW.Trod enc P w 0 (fun _ => true) true t v d p) :
    ∃ cs : Array Value, v = .agg cs ∧ cs.size = tys.length ∧ ∀ (i : Nat) (u : TypeId), tys[i]? = some u → ∃ x n y, cs[i]? = some x ∧ Cell.okWide P w .any b0 u x ∧ DataW.trod enc P w 0 (fun _ => true) true n u [x] = some y := by
  obtain ⟨cs, h1, h2, h3⟩ := arg_agg hs hone hC hT htys hok h
  refine ⟨cs, h1, by rw [h2, htys]; simp, fun i u hu => ?_⟩
  rw [htys, List.getElem?_map] at hu
  cases hq : fs.toList[i]? with
  | none => simp [hq] at hu
  | some f =>
    simp [hq] at hu
    subst hu
    exact h3 i f (by simpa using hq)
theorem vag {as : List A} {cs : Array Value} {ρ : Env} {ch : List Chunk} (hl : cs.size = as.length) (h : ∀ (j : Nat) (a : A), as[j]? = some a → ∃ x, cs[j]? = some x ∧ VA w ρ ch a x) : VAV w ρ ch (.g as) (.agg cs) := ⟨cs, rfl, hl, h⟩
end
end Go.VC
end
