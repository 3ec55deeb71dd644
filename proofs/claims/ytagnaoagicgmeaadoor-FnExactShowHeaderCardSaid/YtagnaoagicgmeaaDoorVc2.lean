/- The verified condition generator: definitions and lemmas about the model; no program in sight. Conditions: none beyond what each theorem states. -/
import Derived.Test.YtagnaoagicgmeaaDoorVc1
set_option linter.all false
section
namespace Go.VC
open Go
universe u
def withF (r : Option FRes) (k : FRes → Prop) : Prop := match r with
  | some r => k r
  | none => False
theorem withF_some {r k} : withF (some r) k = k r := (_root_.id rfl)
theorem withF_none {k} : withF none k = False := (_root_.id rfl)
def Tag {α : Sort u} (_ : α) : Type := Bool
def tag {α : Sort u} (a : α) : Tag a := true
def Fz {α : Sort u} (a : α) (_ : Tag a) : α := a
theorem Fz_ks {K : KS} {t fr ch} : Fz K t fr ch = K fr ch := (_root_.id rfl)
theorem Fz_kx {K : KX} {t x fr ch} : Fz K t x fr ch = K x fr ch := (_root_.id rfl)
theorem Fz_av {K : AV → List Chunk → Prop} {t av ch} : Fz K t av ch = K av ch := (_root_.id rfl)
theorem Fz_r {K : FRes → Prop} {t r} : Fz K t r = K r := (_root_.id rfl)
theorem Fz_c {K : CRes → Prop} {t r} : Fz K t r = K r := (_root_.id rfl)
theorem Fz_ch {K : List Chunk → Prop} {t r} : Fz K t r = K r := (_root_.id rfl)
theorem Fz_ti {K : TI → Prop} {t r} : Fz K t r = K r := (_root_.id rfl)
theorem Fz_ct {K : Contract → Prop} {t r} : Fz K t r = K r := (_root_.id rfl)
theorem Fz_n {K : Nat → Prop} {t r} : Fz K t r = K r := (_root_.id rfl)
def andK (p : Prop) (q : Prop) : Prop := p ∧ (p → q)
theorem andK_true {q} : andK True q = q := by simp [andK]
theorem andK_congr {p p' q q' : Prop} (h : p = p') (g : p' → q = q') : andK p q = andK p' q' := by
  subst h; unfold andK
  exact propext ⟨fun ⟨a, b⟩ => ⟨a, fun c => (g a) ▸ b c⟩, fun ⟨a, b⟩ => ⟨a, fun c => (g a).symm ▸ b c⟩⟩
theorem opsK_nil {c ops fr ch K} : opsK c ops [] fr ch K = K fr ch := (_root_.id rfl)
theorem opsK_cons {c ops o os fr ch K} : opsK c ops (o :: os) fr ch K = opG c ops o fr ch (Fz (fun fr ch => opsK c ops os fr ch K) (tag _)) := (_root_.id rfl)
theorem opG_none {c ops dst op ty pos after fr ch K} : opG c ops ⟨dst, op, ty, pos, after, none⟩ fr ch K = opX c ⟨dst, op, ty, pos, after, none⟩ fr ch K := (_root_.id rfl)
def grdK (c : Ctx) (x : AV) (t : Nat) (want : Bool) (o : Oper) (fr : List AV) (ch : List Chunk) (K : KS) : Prop := match x with
  | .s (.d (.v (.bool b))) => (b = want → opX c o (fr.set t (vB want)) ch K) ∧ (b = !want → K (putF (fr.set t (vB !want)) o.dst .u) ch)
  | _ => False
def slotK (s : Option Nat) (k : Nat → Prop) : Prop := match s with
  | some t => k t
  | none => False
theorem slotK_some {t k} : slotK (some t) k = k t := (_root_.id rfl)
theorem opG_some {c ops dst op ty pos after j want fr ch K} : opG c ops ⟨dst, op, ty, pos, after, some (j, want)⟩ fr ch K =
    slotK ((ops[j]?).bind (·.dst)) (Fz (fun t => grdK c (fr.getD t .u) t want ⟨dst, op, ty, pos, after, some (j, want)⟩ fr ch K) (tag _)) := by
  simp only [opG, slotK]
  split <;> rename_i h <;> simp only [h]
  rfl
theorem grdK_tt {c t o fr ch K} : grdK c (.s (.d (.v (.bool true)))) t true o fr ch K = opX c o (fr.set t (vB true)) ch K := by simp [grdK]
theorem grdK_ff {c t o fr ch K} : grdK c (.s (.d (.v (.bool false)))) t false o fr ch K = opX c o (fr.set t (vB false)) ch K := by simp [grdK]
theorem grdK_tf {c t o fr ch K} : grdK c (.s (.d (.v (.bool true)))) t false o fr ch K = K (putF (fr.set t (vB true)) o.dst .u) ch := by simp [grdK]
theorem grdK_ft {c t o fr ch K} : grdK c (.s (.d (.v (.bool false)))) t true o fr ch K = K (putF (fr.set t (vB false)) o.dst .u) ch := by simp [grdK]
theorem grdK_dt {c p t o fr ch K} [Decidable p] : grdK c (.s (.d (.v (.bool (decide p))))) t true o fr ch K =
    ((p → opX c o (fr.set t (vB true)) ch K) ∧ (¬ p → K (putF (fr.set t (vB false)) o.dst .u) ch)) := by simp [grdK]
theorem grdK_df {c p t o fr ch K} [Decidable p] : grdK c (.s (.d (.v (.bool (decide p))))) t false o fr ch K =
    ((¬ p → opX c o (fr.set t (vB false)) ch K) ∧ (p → K (putF (fr.set t (vB true)) o.dst .u) ch)) := by simp [grdK]
def isF : Op → Bool
  | .store .. => false
  | .call cl => match cl.callee with
    | .builtin .append => false
    | .value _ => false
    | _ => true
  | _ => true
theorem floatK_eq {c o fr ch K} : floatK c o fr ch K = withF (fstep c.tt c.wr fr ch o.op) fun r => andK r.obl (K (putF fr o.dst r.val) (r.ch ch)) := by
  unfold floatK withF andK
  rfl
theorem opX_float {c dst op ty pos after guard fr ch K} (h : isF op = true) : opX c ⟨dst, op, ty, pos, after, guard⟩ fr ch K =
    withF (fstep c.tt c.wr fr ch op) (Fz (fun r => andK r.obl (K (putF fr dst r.val) (r.ch ch))) (tag _)) := by
  refine Eq.trans ?_ (floatK_eq (o := ⟨dst, op, ty, pos, after, guard⟩))
  cases op <;> try rfl
  case store => simp [isF] at h
  case call cl =>
    simp only [opX]
    simp only [isF] at h
    split <;> simp_all
def withC (r : Option (List Chunk)) (k : List Chunk → Prop) : Prop := match r with
  | some r => k r
  | none => False
theorem withC_some {r k} : withC (some r) k = k r := (_root_.id rfl)
def withT (r : Option TI) (k : TI → Prop) : Prop := match r with
  | some r => k r
  | none => False
theorem withT_some {r k} : withT (some r) k = k r := (_root_.id rfl)
theorem opX_store {c dst t a v ty pos after guard fr ch K} : opX c ⟨dst, .store t a v, ty, pos, after, guard⟩ fr ch K =
    withT (c.tt t) (Fz (fun ti => withC (astore ch ti.zs.length (aeval fr a) (aeval fr v)) (Fz (fun ch' => K (putF fr dst .u) ch') (tag _))) (tag _)) := by
  unfold withT withC
  simp only [opX]
  split <;> rename_i h <;> simp only [h]
  rfl
def withR (r : Option CRes) (k : CRes → Prop) : Prop := match r with
  | some r => k r
  | none => False
theorem withR_some {r k} : withR (some r) k = k r := (_root_.id rfl)
def appR (c : Ctx) (cl : List Operand) (tys : List TypeId) (fr : List AV) (ch : List Chunk) : Option CRes := match cl, tys with
  | [x, y], [t0, t1] => match c.tt t0 with
    | some (.sl wd by_ _ _) => match isSrcT (c.tt t1) with
      | true => aappend ch wd by_ (aeval fr x) (aeval fr y)
      | false => none
    | _ => none
  | _, _ => none
theorem opX_append {c dst args tys ty pos after guard fr ch K} : opX c ⟨dst, .call ⟨.builtin .append, args, tys⟩, ty, pos, after, guard⟩ fr ch K =
    withR (appR c args.toList tys.toList fr ch) (Fz (fun r => andK r.obl (K (putF fr dst r.val) r.ch)) (tag _)) := by
  unfold withR appR andK
  simp only [opX]
  split
  · split
    · split
      · simp_all only []
        rfl
      · simp_all
    · simp_all
  · simp_all
def withCt (r : Option Contract) (k : Contract → Prop) : Prop := match r with
  | some r => k r
  | none => False
theorem withCt_some {r k} : withCt (some r) k = k r := (_root_.id rfl)
theorem opX_call {c dst f args tys ty pos after guard fr ch K} : opX c ⟨dst, .call ⟨.value (.func f), args, tys⟩, ty, pos, after, guard⟩ fr ch K =
    withCt (c.Γ f) (Fz (fun C => acall C ch (args.toList.map (aeval fr)) (Fz (fun av ch' => K (putF fr dst av) ch') (tag _))) (tag _)) := by
  unfold withCt
  simp only [opX, callK, aeval, List.map_nil, List.append_nil]
  split <;> rename_i h <;> simp only [h] <;> rfl
def fnK1 (c : Ctx) (f : AV) (args : List AV) (ch : List Chunk) (k : AV → List Chunk → Prop) : Prop := match f with
  | .s (.fn id caps) => withCt (c.Γ id) fun C => acall C ch (args ++ caps.map fun x => .s (.ptr x 0)) k
  | _ => False
theorem fnK1_fn {c id caps args ch k} : fnK1 c (.s (.fn id caps)) args ch k = withCt (c.Γ id) fun C => acall C ch (args ++ caps.map fun x => .s (.ptr x 0)) k := (_root_.id rfl)
theorem opX_callv {c dst f args tys ty pos after guard fr ch K} : opX c ⟨dst, .call ⟨.value f, args, tys⟩, ty, pos, after, guard⟩ fr ch K =
    fnK1 c (aeval fr f) (args.toList.map (aeval fr)) ch (Fz (fun av ch' => K (putF fr dst av) ch') (tag _)) := by
  unfold fnK1 withCt
  simp only [opX, callK]
  split
  · rename_i h
    simp only [h]
    split <;> rename_i h2 <;> simp only [h2] <;> rfl
  · rename_i h
    split
    · rename_i h2; exact absurd h2 (h _ _)
    · rfl
theorem exec_skip {c m fr ch K} : exec c m .skip fr ch K = K .n fr ch := (_root_.id rfl)
theorem exec_region {c m i} {l : List Oper} {fr ch K} : exec c m (.region i l.toArray false) fr ch K = opsK c l l fr ch (K .n) := (_root_.id rfl)
theorem exec_seq {c m a b fr ch K} : exec c m (.seq a b) fr ch K = exec c m a fr ch (Fz (fun x fr ch => match x with
    | .n => exec c m b fr ch K
    | .e i => K (.e i) fr ch
    | .r => K .r fr ch) (tag _)) := (_root_.id rfl)
def condK (c : Ctx) (m : Nat) (x : AV) (a b : Code) (fr : List AV) (ch : List Chunk) (K : KX) : Prop := match x with
  | .s (.d (.v (.bool x))) => (x = true → exec c m a fr ch K) ∧ (x = false → exec c m b fr ch K)
  | _ => False
theorem exec_cond {c m t a b fr ch K} : exec c m (.cond t a b) fr ch K = condK c m (aeval fr t) a b fr ch K := (_root_.id rfl)
theorem condK_t {c m a b fr ch K} : condK c m (.s (.d (.v (.bool true)))) a b fr ch K = exec c m a fr ch K := by simp [condK]
theorem condK_f {c m a b fr ch K} : condK c m (.s (.d (.v (.bool false)))) a b fr ch K = exec c m b fr ch K := by simp [condK]
theorem condK_d {c m p a b fr ch K} [Decidable p] : condK c m (.s (.d (.v (.bool (decide p))))) a b fr ch K = ((p → exec c m a fr ch K) ∧ (¬ p → exec c m b fr ch K)) := by simp [condK]
theorem condK_n {c m p a b fr ch K} [Decidable p] : condK c m (.s (.d (.v (.bool (!decide p))))) a b fr ch K = ((¬ p → exec c m a fr ch K) ∧ (p → exec c m b fr ch K)) := by simp [condK]
theorem condK_b {c m x a b fr ch K} : condK c m (.s (.d (.v (.bool x)))) a b fr ch K = ((x = true → exec c m a fr ch K) ∧ (x = false → exec c m b fr ch K)) := (_root_.id rfl)
theorem exec_block {c m id a fr ch K} : exec c m (.block id a) fr ch K = exec c m a fr ch (Fz (fun x fr ch => match x with
    | .n => K .n fr ch
    | .e i => match Nat.beq i id with
      | true => K .n fr ch
      | false => K (.e i) fr ch
    | .r => K .r fr ch) (tag _)) := (_root_.id rfl)
theorem exec_exit {c m id fr ch K} : exec c m (.exit id) fr ch K = K (.e id) fr ch := (_root_.id rfl)
theorem exec_ret {c m fr ch K} : exec c m .ret fr ch K = K .r fr ch := (_root_.id rfl)
theorem putF_some {fr d x} : putF fr (some d) x = fr.set d x := (_root_.id rfl)
theorem putF_none {fr x} : putF fr none x = fr := (_root_.id rfl)
theorem retK_eq {c m plain rs K fr ch} : fnK c m plain rs K .r fr ch = retK c m plain rs K fr ch := (_root_.id rfl)
theorem retK_eqn {c m plain rs K fr ch} : fnK c m plain rs K .n fr ch = retK c m plain rs K fr ch := (_root_.id rfl)
def PlainCell : AV → Prop
  | .s (.d (.v _)) => True
  | _ => False
theorem opX_move {c dst x0 ty pos after guard fr ch K} : opX c ⟨dst, .move x0, ty, pos, after, guard⟩ fr ch K = withF (fstep c.tt c.wr fr ch (.move x0)) (Fz (fun r => andK r.obl (K (putF fr dst r.val) (r.ch ch))) (tag _)) := opX_float rfl
theorem opX_assign {c dst x0 ty pos after guard fr ch K} : opX c ⟨dst, .assign x0, ty, pos, after, guard⟩ fr ch K = withF (fstep c.tt c.wr fr ch (.assign x0)) (Fz (fun r => andK r.obl (K (putF fr dst r.val) (r.ch ch))) (tag _)) := opX_float rfl
theorem opX_pick {c dst x0 x1 x2 ty pos after guard fr ch K} : opX c ⟨dst, .pick x0 x1 x2, ty, pos, after, guard⟩ fr ch K = withF (fstep c.tt c.wr fr ch (.pick x0 x1 x2)) (Fz (fun r => andK r.obl (K (putF fr dst r.val) (r.ch ch))) (tag _)) := opX_float rfl
theorem opX_alloc {c dst x0 ty pos after guard fr ch K} : opX c ⟨dst, .alloc x0, ty, pos, after, guard⟩ fr ch K = withF (fstep c.tt c.wr fr ch (.alloc x0)) (Fz (fun r => andK r.obl (K (putF fr dst r.val) (r.ch ch))) (tag _)) := opX_float rfl
theorem opX_box {c dst x0 x1 ty pos after guard fr ch K} : opX c ⟨dst, .box x0 x1, ty, pos, after, guard⟩ fr ch K = withF (fstep c.tt c.wr fr ch (.box x0 x1)) (Fz (fun r => andK r.obl (K (putF fr dst r.val) (r.ch ch))) (tag _)) := opX_float rfl
theorem opX_build {c dst x0 x1 ty pos after guard fr ch K} : opX c ⟨dst, .build x0 x1, ty, pos, after, guard⟩ fr ch K = withF (fstep c.tt c.wr fr ch (.build x0 x1)) (Fz (fun r => andK r.obl (K (putF fr dst r.val) (r.ch ch))) (tag _)) := opX_float rfl
theorem opX_buildSlice {c dst x0 x1 x2 ty pos after guard fr ch K} : opX c ⟨dst, .buildSlice x0 x1 x2, ty, pos, after, guard⟩ fr ch K = withF (fstep c.tt c.wr fr ch (.buildSlice x0 x1 x2)) (Fz (fun r => andK r.obl (K (putF fr dst r.val) (r.ch ch))) (tag _)) := opX_float rfl
theorem opX_load {c dst x0 x1 ty pos after guard fr ch K} : opX c ⟨dst, .load x0 x1, ty, pos, after, guard⟩ fr ch K = withF (fstep c.tt c.wr fr ch (.load x0 x1)) (Fz (fun r => andK r.obl (K (putF fr dst r.val) (r.ch ch))) (tag _)) := opX_float rfl
theorem opX_nilCheck {c dst x0 ty pos after guard fr ch K} : opX c ⟨dst, .nilCheck x0, ty, pos, after, guard⟩ fr ch K = withF (fstep c.tt c.wr fr ch (.nilCheck x0)) (Fz (fun r => andK r.obl (K (putF fr dst r.val) (r.ch ch))) (tag _)) := opX_float rfl
theorem opX_binOp {c dst x0 x1 x2 x3 x4 ty pos after guard fr ch K} : opX c ⟨dst, .binOp x0 x1 x2 x3 x4, ty, pos, after, guard⟩ fr ch K = withF (fstep c.tt c.wr fr ch (.binOp x0 x1 x2 x3 x4)) (Fz (fun r => andK r.obl (K (putF fr dst r.val) (r.ch ch))) (tag _)) := opX_float rfl
theorem opX_unOp {c dst x0 x1 x2 ty pos after guard fr ch K} : opX c ⟨dst, .unOp x0 x1 x2, ty, pos, after, guard⟩ fr ch K = withF (fstep c.tt c.wr fr ch (.unOp x0 x1 x2)) (Fz (fun r => andK r.obl (K (putF fr dst r.val) (r.ch ch))) (tag _)) := opX_float rfl
theorem opX_convert {c dst x0 x1 x2 ty pos after guard fr ch K} : opX c ⟨dst, .convert x0 x1 x2, ty, pos, after, guard⟩ fr ch K = withF (fstep c.tt c.wr fr ch (.convert x0 x1 x2)) (Fz (fun r => andK r.obl (K (putF fr dst r.val) (r.ch ch))) (tag _)) := opX_float rfl
theorem opX_makeFunc {c dst x0 x1 x2 ty pos after guard fr ch K} : opX c ⟨dst, .makeFunc x0 x1 x2, ty, pos, after, guard⟩ fr ch K = withF (fstep c.tt c.wr fr ch (.makeFunc x0 x1 x2)) (Fz (fun r => andK r.obl (K (putF fr dst r.val) (r.ch ch))) (tag _)) := opX_float rfl
theorem opX_makeSlice {c dst x0 x1 x2 ty pos after guard fr ch K} : opX c ⟨dst, .makeSlice x0 x1 x2, ty, pos, after, guard⟩ fr ch K = withF (fstep c.tt c.wr fr ch (.makeSlice x0 x1 x2)) (Fz (fun r => andK r.obl (K (putF fr dst r.val) (r.ch ch))) (tag _)) := opX_float rfl
theorem opX_slice {c dst x0 x1 x2 x3 x4 ty pos after guard fr ch K} : opX c ⟨dst, .slice x0 x1 x2 x3 x4, ty, pos, after, guard⟩ fr ch K = withF (fstep c.tt c.wr fr ch (.slice x0 x1 x2 x3 x4)) (Fz (fun r => andK r.obl (K (putF fr dst r.val) (r.ch ch))) (tag _)) := opX_float rfl
theorem opX_fieldAddr {c dst x0 x1 x2 ty pos after guard fr ch K} : opX c ⟨dst, .fieldAddr x0 x1 x2, ty, pos, after, guard⟩ fr ch K = withF (fstep c.tt c.wr fr ch (.fieldAddr x0 x1 x2)) (Fz (fun r => andK r.obl (K (putF fr dst r.val) (r.ch ch))) (tag _)) := opX_float rfl
theorem opX_field {c dst x0 x1 x2 ty pos after guard fr ch K} : opX c ⟨dst, .field x0 x1 x2, ty, pos, after, guard⟩ fr ch K = withF (fstep c.tt c.wr fr ch (.field x0 x1 x2)) (Fz (fun r => andK r.obl (K (putF fr dst r.val) (r.ch ch))) (tag _)) := opX_float rfl
theorem opX_indexAddr {c dst x0 x1 x2 ty pos after guard fr ch K} : opX c ⟨dst, .indexAddr x0 x1 x2, ty, pos, after, guard⟩ fr ch K = withF (fstep c.tt c.wr fr ch (.indexAddr x0 x1 x2)) (Fz (fun r => andK r.obl (K (putF fr dst r.val) (r.ch ch))) (tag _)) := opX_float rfl
theorem opX_index {c dst x0 x1 x2 ty pos after guard fr ch K} : opX c ⟨dst, .index x0 x1 x2, ty, pos, after, guard⟩ fr ch K = withF (fstep c.tt c.wr fr ch (.index x0 x1 x2)) (Fz (fun r => andK r.obl (K (putF fr dst r.val) (r.ch ch))) (tag _)) := opX_float rfl
theorem opX_extract {c dst x0 x1 ty pos after guard fr ch K} : opX c ⟨dst, .extract x0 x1, ty, pos, after, guard⟩ fr ch K = withF (fstep c.tt c.wr fr ch (.extract x0 x1)) (Fz (fun r => andK r.obl (K (putF fr dst r.val) (r.ch ch))) (tag _)) := opX_float rfl
theorem opX_len {c dst x0 x1 ty pos after guard fr ch K} : opX c ⟨dst, .call ⟨.builtin .len, x0, x1⟩, ty, pos, after, guard⟩ fr ch K = withF (fstep c.tt c.wr fr ch (.call ⟨.builtin .len, x0, x1⟩)) (Fz (fun r => andK r.obl (K (putF fr dst r.val) (r.ch ch))) (tag _)) := opX_float rfl
theorem opX_max {c dst x0 x1 ty pos after guard fr ch K} : opX c ⟨dst, .call ⟨.builtin .max, x0, x1⟩, ty, pos, after, guard⟩ fr ch K = withF (fstep c.tt c.wr fr ch (.call ⟨.builtin .max, x0, x1⟩)) (Fz (fun r => andK r.obl (K (putF fr dst r.val) (r.ch ch))) (tag _)) := opX_float rfl
theorem opX_min {c dst x0 x1 ty pos after guard fr ch K} : opX c ⟨dst, .call ⟨.builtin .min, x0, x1⟩, ty, pos, after, guard⟩ fr ch K = withF (fstep c.tt c.wr fr ch (.call ⟨.builtin .min, x0, x1⟩)) (Fz (fun r => andK r.obl (K (putF fr dst r.val) (r.ch ch))) (tag _)) := opX_float rfl
end Go.VC
end
