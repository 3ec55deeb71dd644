/- The verified condition generator: definitions and lemmas about the model; no program in sight. Conditions: none beyond what each theorem states. -/
import Derived.Test.YtagnaoagicgmeaaDoorVc3
set_option linter.all false
section
namespace Go.VC
open Go
variable {tt : TypeId → Option TI} {wr : Bool} {fr : List AV} {ch : List Chunk} {c : Ctx}
theorem Fz_l {K : List Nat → Prop} {t r} : Fz K t r = K r := (_root_.id rfl)
theorem andK_def {p q : Prop} : andK p q = (p ∧ (p → q)) := (_root_.id rfl)
def specK (C : Contract) (args : List AV) (ch : List Chunk) (K : AV → List Chunk → Prop) : Prop := C.spec args ch K
def freezeB (p : Bool) (order : List Nat) (args : List AV) (ch : List Chunk) : List Chunk := match p with
  | true => ch
  | false => freezeAll ch (dataRefs order args ch)
theorem freezeB_t {order args} : freezeB true order args ch = ch := (_root_.id rfl)
theorem freezeB_f {order args} : freezeB false order args ch = freezeAll ch (dataRefs order args ch) := (_root_.id rfl)
theorem acall_eq {C args K} : acall C ch args K =
    Fz (fun order => Fz (fun ch1 => specK C (args.map (renAV ch1 order)) (locals ch1 order) (Fz (fun av chl' => K (backAV order ch1.length av) (merge ch1 order chl')) (tag _))) (tag _)
      (freezeB C.plain order args ch)) (tag _) (closeRefs ch (4 * ch.length + 8) (allRefs C.own args) []) := (_root_.id rfl)
theorem renAV_s {order a} : renAV ch order (.s a) = .s (renA ch order a) := (_root_.id rfl)
theorem renAV_g {order as} : renAV ch order (.g as) = .g (as.map (renA ch order)) := (_root_.id rfl)
theorem renA_d {order x} : renA ch order (.d x) = .d x := (_root_.id rfl)
def renO (i : Option Nat) (k : Chunk) : A := match i with
  | some i => .own i
  | none => match k with
    | .sl nf wd es => .d (.sl nf wd es)
    | .fz nf wd es => .d (.sl nf wd es)
    | _ => .junk
theorem renA_own {order c} : renA ch order (.own c) = renO (idx order c) (ch.getD c .dead) := (_root_.id rfl)
theorem renO_some {i k} : renO (some i) k = .own i := (_root_.id rfl)
theorem renO_sl {nf wd es} : renO none (.sl nf wd es) = .d (.sl nf wd es) := (_root_.id rfl)
theorem renO_fz {nf wd es} : renO none (.fz nf wd es) = .d (.sl nf wd es) := (_root_.id rfl)
def renP (off : Nat) (i : Option Nat) : A := match i with
  | some i => .ptr i off
  | none => .junk
theorem renA_ptr {order c off} : renA ch order (.ptr c off) = renP off (idx order c) := (_root_.id rfl)
theorem renP_some {i off} : renP off (some i) = .ptr i off := (_root_.id rfl)
theorem renA_fn {order f} : renA ch order (.fn f []) = .fn f [] := (_root_.id rfl)
theorem idx_nil {c} : idx [] c = none := (_root_.id rfl)
def idx1 (b : Bool) (r : Option Nat) : Option Nat := match b with
  | true => some 0
  | false => match r with
    | some i => some (i + 1)
    | none => none
theorem idx_cons {x xs c} : idx (x :: xs) c = idx1 (Nat.beq x c) (idx xs c) := (_root_.id rfl)
theorem idx1_t {r} : idx1 true r = some 0 := (_root_.id rfl)
theorem idx1_fs {i} : idx1 false (some i) = some (i + 1) := (_root_.id rfl)
theorem idx1_fn : idx1 false none = none := (_root_.id rfl)
theorem beq_self {n : Nat} : Nat.beq n n = true := by simp
theorem beq_0S {n : Nat} : Nat.beq 0 (n + 1) = false := (_root_.id rfl)
theorem beq_S0 {n : Nat} : Nat.beq (n + 1) 0 = false := (_root_.id rfl)
theorem beq_SS {n m : Nat} : Nat.beq (n + 1) (m + 1) = Nat.beq n m := (_root_.id rfl)
theorem cr_nil {n done} : closeRefs ch n [] done = done := by cases n <;> rfl
def cr1 (ch : List Chunk) (n c : Nat) (todo done : List Nat) (b : Bool) (k : Chunk) : List Nat := match b with
  | true => closeRefs ch n todo done
  | false => match k with
    | .box cells => closeRefs ch n (cells.flatMap refA ++ todo) (done ++ [c])
    | .sl .. => closeRefs ch n todo (done ++ [c])
    | _ => closeRefs ch n todo done
theorem cr_cons {n c todo done} : closeRefs ch (n + 1) (c :: todo) done = cr1 ch n c todo done (done.contains c) (ch.getD c .dead) := (_root_.id rfl)
theorem cr1_t {n c todo done k} : cr1 ch n c todo done true k = closeRefs ch n todo done := (_root_.id rfl)
theorem cr1_box {n c todo done cells} : cr1 ch n c todo done false (.box cells) = closeRefs ch n (cells.flatMap refA ++ todo) (done ++ [c]) := (_root_.id rfl)
theorem cr1_sl {n c todo done nf wd es} : cr1 ch n c todo done false (.sl nf wd es) = closeRefs ch n todo (done ++ [c]) := (_root_.id rfl)
theorem cr1_fz {n c todo done nf wd es} : cr1 ch n c todo done false (.fz nf wd es) = closeRefs ch n todo done := (_root_.id rfl)
theorem refA_d {x} : refA (.d x) = [] := (_root_.id rfl)
theorem refA_own {c} : refA (.own c) = [c] := (_root_.id rfl)
theorem refA_ptr {c o} : refA (.ptr c o) = [c] := (_root_.id rfl)
theorem refA_fn {f cs} : refA (.fn f cs) = cs := (_root_.id rfl)
theorem ar_td {x} : argRefs true (.s x) = refA x := (_root_.id rfl)
theorem ar_tg {x} : argRefs true (.g x) = x.flatMap refA := (_root_.id rfl)
theorem ar_fd {x} : argRefs false (.s (.d x)) = [] := (_root_.id rfl)
theorem ar_fo {x} : argRefs false (.s (.own x)) = [] := (_root_.id rfl)
theorem ar_fp {c o} : argRefs false (.s (.ptr c o)) = [c] := (_root_.id rfl)
theorem ar_ff {f cs} : argRefs false (.s (.fn f cs)) = cs := (_root_.id rfl)
theorem ar_fg {x} : argRefs false (.g x) = [] := (_root_.id rfl)
theorem al_nil {m} : allRefs m [] = [] := by cases m <;> rfl
theorem al_0 {a as} : allRefs [] (a :: as) = argRefs false a ++ allRefs [] as := (_root_.id rfl)
theorem al_1 {m ms a as} : allRefs (m :: ms) (a :: as) = argRefs m a ++ allRefs ms as := (_root_.id rfl)
theorem loc_nil : locals ch [] = [] := (_root_.id rfl)
theorem loc_cons {c cs} : locals ch (c :: cs) = renCh ch (c :: cs) (ch.getD c .dead) :: (cs.map fun x => renCh ch (c :: cs) (ch.getD x .dead)) := (_root_.id rfl)
theorem renCh_box {order cells} : renCh ch order (.box cells) = .box (cells.map (renA ch order)) := (_root_.id rfl)
theorem renCh_sl {order nf wd es} : renCh ch order (.sl nf wd es) = .sl nf wd es := (_root_.id rfl)
theorem bk_nil {base i} : backId [] base i = base + i := by simp [backId]
def bk1 (base : Nat) (i n : Nat) (r : Option Nat) : Nat := match r with
  | some c => c
  | none => base + (i - n)
theorem bk_eq {order base i} : backId order base i = bk1 base i order.length (order[i]?) := (_root_.id rfl)
theorem bk1_some {base i n c} : bk1 base i n (some c) = c := (_root_.id rfl)
theorem bk1_none {base i n} : bk1 base i n none = base + (i - n) := (_root_.id rfl)
theorem bA_d {order base x} : backA order base (.d x) = .d x := (_root_.id rfl)
theorem bA_own {order base x} : backA order base (.own x) = .own (backId order base x) := (_root_.id rfl)
theorem bA_ptr {order base x o} : backA order base (.ptr x o) = .ptr (backId order base x) o := (_root_.id rfl)
theorem bA_fn {order base f} : backA order base (.fn f []) = .fn f [] := (_root_.id rfl)
theorem bA_junk {order base} : backA order base .junk = .junk := (_root_.id rfl)
theorem bAV_s {order base x} : backAV order base (.s x) = .s (backA order base x) := (_root_.id rfl)
theorem bAV_g {order base x} : backAV order base (.g x) = .g (x.map (backA order base)) := (_root_.id rfl)
theorem bAV_u {order base} : backAV order base .u = .u := (_root_.id rfl)
def bT (order : List Nat) (base : Nat) (x : AV) : AV := match x with
  | .s a => .s (backA order base a)
  | .g as => .g (as.map (backA order base))
  | y => y
theorem bAV_t {order base xs} : backAV order base (.t xs) = .t (xs.map (bT order base)) := (_root_.id rfl)
theorem bT_s {order base x} : bT order base (.s x) = .s (backA order base x) := (_root_.id rfl)
theorem bT_g {order base x} : bT order base (.g x) = .g (x.map (backA order base)) := (_root_.id rfl)
theorem bCh_box {order base cells} : backCh order base (.box cells) = .box (cells.map (backA order base)) := (_root_.id rfl)
theorem bCh_sl {order base nf wd es} : backCh order base (.sl nf wd es) = .sl nf wd es := (_root_.id rfl)
theorem bCh_fz {order base nf wd es} : backCh order base (.fz nf wd es) = .fz nf wd es := (_root_.id rfl)
theorem mg_nil {chl} : merge ch [] chl = ch ++ chl.map (backCh [] ch.length) := by
  simp [merge, putBack]
theorem mg_eq {c cs chl} : merge ch (c :: cs) chl = putBack ch ch.length (c :: cs) (c :: cs) chl ++ (chl.drop (cs.length + 1)).map (backCh (c :: cs) ch.length) := (_root_.id rfl)
theorem pb_nil {base o k} : putBack ch base o [] k = ch := by cases k <;> rfl
theorem pb_cons {base o c cs k ks} : putBack ch base o (c :: cs) (k :: ks) = putBack (ch.set c (backCh o base k)) base o cs ks := (_root_.id rfl)
theorem dr_eq {order args} : dataRefs order args ch = ((args.flatMap fun x => match x with
    | .s a => refA a
    | .g as => as.flatMap refA
    | _ => []) ++ (order.flatMap fun c => match ch.getD c .dead with
      | .box cells => cells.flatMap refA
      | _ => [])).filter fun c => !order.contains c := (_root_.id rfl)
def apD (c wd : Nat) (ch : List Chunk) (es2 : List (List D)) (k : Chunk) : Option CRes := match k with
  | .sl nf wd1 es => if wd1 = wd then some ⟨es.length + es2.length ≤ 68719476736, .s (.own ch.length), ch.set c .dead ++ [.sl (nfUp nf) wd (es ++ es2)]⟩ else none
  | _ => none
def apS (ch : List Chunk) (wd by_ : Nat) (dst : AV) (src : Option (Nat × List (List D))) : Option CRes := match src with
  | some (wd2, es2) => if wd2 = wd ∧ by_ ≤ 1024 then match dst with
      | .s (.own c) => apD c wd ch es2 (ch.getD c .dead)
      | .s (.d (.sl (some true) _ [])) => some ⟨es2.length ≤ 68719476736, .s (.own ch.length), ch ++ [.sl none wd es2]⟩
      | _ => none
    else none
  | none => none
def apT (ch : List Chunk) (x y : AV) (t0 : Option TI) (t1 : Option TI) : Option CRes := match t0 with
  | some (.sl wd by_ _ _) => match isSrcT t1 with
    | true => apS ch wd by_ x (srcEs ch y)
    | false => none
  | _ => none
theorem appR_eq {x y t0 t1} : appR c [x, y] [t0, t1] fr ch = apT ch (aeval fr x) (aeval fr y) (c.tt t0) (c.tt t1) := (_root_.id rfl)
theorem apT_sl {x y wd by_ ag zs a b e s} : apT ch x y (some (.sl wd by_ ag zs)) (some (.sl a b e s)) = apS ch wd by_ x (srcEs ch y) := (_root_.id rfl)
theorem apT_st {x y wd by_ ag zs s} : apT ch x y (some (.sl wd by_ ag zs)) (some (.one (.v (.string s)))) = apS ch wd by_ x (srcEs ch y) := (_root_.id rfl)
theorem apS_own {wd by_ c wd2 es2} : apS ch wd by_ (.s (.own c)) (some (wd2, es2)) = if wd2 = wd ∧ by_ ≤ 1024 then apD c wd ch es2 (ch.getD c .dead) else none := (_root_.id rfl)
theorem apS_nil {wd by_ w wd2 es2} : apS ch wd by_ (.s (.d (.sl (some true) w []))) (some (wd2, es2)) = if wd2 = wd ∧ by_ ≤ 1024 then some ⟨es2.length ≤ 68719476736, .s (.own ch.length), ch ++ [.sl none wd es2]⟩ else none := (_root_.id rfl)
theorem apD_sl {c wd nf wd1 es es2} : apD c wd ch es2 (.sl nf wd1 es) = if wd1 = wd then some ⟨es.length + es2.length ≤ 68719476736, .s (.own ch.length), ch.set c .dead ++ [.sl (nfUp nf) wd (es ++ es2)]⟩ else none := (_root_.id rfl)
def srcC (k : Chunk) : Option (Nat × List (List D)) := match k with
  | .sl _ wd es => some (wd, es)
  | .fz _ wd es => some (wd, es)
  | _ => none
theorem src_own {c} : srcEs ch (.s (.own c)) = srcC (ch.getD c .dead) := (_root_.id rfl)
theorem srcC_sl {nf wd es} : srcC (.sl nf wd es) = some (wd, es) := (_root_.id rfl)
theorem srcC_fz {nf wd es} : srcC (.fz nf wd es) = some (wd, es) := (_root_.id rfl)
theorem src_d {nf wd es} : srcEs ch (.s (.d (.sl nf wd es))) = some (wd, es) := (_root_.id rfl)
theorem src_s {b} : srcEs ch (.s (.d (.v (.string b)))) = some (1, encB (bts b)) := (_root_.id rfl)
def stP (ch : List Chunk) (c off n : Nat) (as : Option (List A)) (k : Chunk) : Option (List Chunk) := match k with
  | .box cells => match as with
    | some as => if as.length = n ∧ off + n ≤ cells.length then some (ch.set c (.box (setRange cells off as))) else none
    | none => none
  | _ => none
theorem as_ptr {n c off v} : astore ch n (.s (.ptr c off)) v = stP ch c off n (avAs v) (ch.getD c .dead) := (_root_.id rfl)
theorem stP_box {c off n as cells} : stP ch c off n (some as) (.box cells) = if as.length = n ∧ off + n ≤ cells.length then some (ch.set c (.box (setRange cells off as))) else none := (_root_.id rfl)
theorem avAs_s {a} : avAs (.s a) = some [a] := (_root_.id rfl)
theorem avAs_g {as} : avAs (.g as) = some as := (_root_.id rfl)
theorem sr_nil {cells : List A} {off} : setRange cells off [] = cells := (_root_.id rfl)
theorem sr_cons {cells : List A} {off a as} : setRange cells off (a :: as) = setRange (cells.set off a) (off + 1) as := (_root_.id rfl)
def stE1 (ch : List Chunk) (c i off n : Nat) (ds : List D) (k : Chunk) : Option (List Chunk) := match k with
  | .sl nf wd es => if ds.length = n ∧ off + n ≤ wd ∧ (ds.length = wd → off = 0) then some (ch.set c (.sl nf wd (setE es i off wd ds))) else none
  | _ => none
def stE (ch : List Chunk) (c i off n : Nat) (r : Option (List D × List Nat)) : Option (List Chunk) := match r with
  | some (ds, fz) => stE1 (freezeAll ch fz) c i off n ds ((freezeAll ch fz).getD c .dead)
  | none => none
theorem as_eptr {n c i off v} : astore ch n (.s (.eptr c i off)) v = stE ch c i off n (avDs ch v) := (_root_.id rfl)
theorem stE_nil {c i off n ds} : stE ch c i off n (some (ds, [])) = stE1 ch c i off n ds (ch.getD c .dead) := (_root_.id rfl)
theorem stE_fz {c i off n ds f fs} : stE ch c i off n (some (ds, f :: fs)) = stE1 (freezeAll ch (f :: fs)) c i off n ds ((freezeAll ch (f :: fs)).getD c .dead) := (_root_.id rfl)
theorem stE1_sl {c i off n ds nf wd es} : stE1 ch c i off n ds (.sl nf wd es) = if ds.length = n ∧ off + n ≤ wd ∧ (ds.length = wd → off = 0) then some (ch.set c (.sl nf wd (setE es i off wd ds))) else none := (_root_.id rfl)
theorem setE_1 {es : List (List D)} {i} {d : D} : setE es i 0 1 [d] = es.set i [d] := (_root_.id rfl)
def dsT (r : Option (D × List Nat)) (s : Option (List D × List Nat)) : Option (List D × List Nat) := match r with
  | some (d, cs) => match s with
    | some (ds, cs') => some (d :: ds, cs ++ cs')
    | none => none
  | none => none
theorem dsT_some {d cs ds cs'} : dsT (some (d, cs)) (some (ds, cs')) = some (d :: ds, cs ++ cs') := (_root_.id rfl)
theorem toDs_nil : toDs ch [] = some ([], []) := (_root_.id rfl)
theorem toDs_cons {a as} : toDs ch (a :: as) = dsT (toD ch a) (toDs ch as) := (_root_.id rfl)
theorem avDs_s {a} : avDs ch (.s a) = toDs ch [a] := (_root_.id rfl)
theorem avDs_g {as} : avDs ch (.g as) = toDs ch as := (_root_.id rfl)
theorem toD_v {x} : toD ch (.d (.v x)) = some (.v x, []) := (_root_.id rfl)
theorem toD_sl {nf wd es} : toD ch (.d (.sl nf wd es)) = some (.sl none wd es, []) := (_root_.id rfl)
def tdC (c : Nat) (k : Chunk) : Option (D × List Nat) := match k with
  | .sl _ wd es => some (.sl none wd es, [c])
  | .fz _ wd es => some (.sl none wd es, [])
  | _ => none
theorem toD_own {c} : toD ch (.own c) = tdC c (ch.getD c .dead) := (_root_.id rfl)
theorem tdC_sl {c nf wd es} : tdC c (.sl nf wd es) = some (.sl none wd es, [c]) := (_root_.id rfl)
theorem tdC_fz {c nf wd es} : tdC c (.fz nf wd es) = some (.sl none wd es, []) := (_root_.id rfl)
theorem exec_draw {m i} {l : List Oper} {K} : exec c m (.region i l.toArray true) fr ch K = drawK c l (c.ord i) fr ch (K .n) := (_root_.id rfl)
theorem dk_nil {ops K} : drawK c ops [] fr ch K = K fr ch := (_root_.id rfl)
def operK (o : Option Oper) (k : Oper → Prop) : Prop := match o with
  | some o => k o
  | none => False
theorem operK_some {o k} : operK (some o) k = k o := (_root_.id rfl)
theorem Fz_o {K : Oper → Prop} {t r} : Fz K t r = K r := (_root_.id rfl)
theorem dk_f {ops i σ K} : drawK c ops ((i, none) :: σ) fr ch K = operK (ops[i]?) (Fz (fun o => fOne c ops o fr ch (Fz (fun fr ch => drawK c ops σ fr ch K) (tag _))) (tag _)) := by
  simp only [drawK, operK, Fz]
  cases ops[i]? <;> rfl
theorem dk_c {ops i ls σ K} : drawK c ops ((i, some ls) :: σ) fr ch K = operK (ops[i]?) (Fz (fun o => opG c ops o fr ch (Fz (fun fr ch => reAll c ops ls fr ch (drawK c ops σ fr ch K)) (tag _))) (tag _)) := by
  simp only [drawK, operK, Fz]
  cases ops[i]? <;> rfl
def withP (r : Option FRes) (k : Prop → AV → Prop) : Prop := match r with
  | some ⟨obl, val, [], []⟩ => k obl val
  | _ => False
theorem withP_some {obl val k} : withP (some ⟨obl, val, [], []⟩) k = k obl val := (_root_.id rfl)
theorem Fz_pv {K : Prop → AV → Prop} {t p v} : Fz K t p v = K p v := (_root_.id rfl)
theorem pureK_eq {dst op ty pos after guard K} : pureK c ⟨dst, op, ty, pos, after, guard⟩ fr ch K = withP (fstep c.tt c.wr fr ch op) (Fz (fun obl val => andK obl (K (putF fr dst val) ch)) (tag _)) := (_root_.id rfl)
theorem fOne_none {ops dst op ty pos after K} : fOne c ops ⟨dst, op, ty, pos, after, none⟩ fr ch K = pureK c ⟨dst, op, ty, pos, after, none⟩ fr ch K := (_root_.id rfl)
def grdP (c : Ctx) (x : AV) (t : Nat) (want : Bool) (o : Oper) (fr : List AV) (ch : List Chunk) (K : KS) : Prop := match x with
  | .s (.d (.v (.bool b))) => (b = want → pureK c o (fr.set t (vB want)) ch K) ∧ (b = !want → K (putF (fr.set t (vB !want)) o.dst .u) ch)
  | _ => False
theorem fOne_some {ops dst op ty pos after j want K} : fOne c ops ⟨dst, op, ty, pos, after, some (j, want)⟩ fr ch K =
    slotK ((ops[j]?).bind (·.dst)) (Fz (fun t => grdP c (fr.getD t .u) t want ⟨dst, op, ty, pos, after, some (j, want)⟩ fr ch K) (tag _)) := by
  simp only [fOne, slotK, Fz]
  cases (ops[j]?).bind (·.dst) <;> rfl
theorem grdP_tt {t o K} : grdP c (.s (.d (.v (.bool true)))) t true o fr ch K = pureK c o (fr.set t (vB true)) ch K := by simp [grdP]
theorem grdP_ff {t o K} : grdP c (.s (.d (.v (.bool false)))) t false o fr ch K = pureK c o (fr.set t (vB false)) ch K := by simp [grdP]
theorem grdP_tf {t o K} : grdP c (.s (.d (.v (.bool true)))) t false o fr ch K = K (putF (fr.set t (vB true)) o.dst .u) ch := by simp [grdP]
theorem grdP_ft {t o K} : grdP c (.s (.d (.v (.bool false)))) t true o fr ch K = K (putF (fr.set t (vB false)) o.dst .u) ch := by simp [grdP]
theorem grdP_dt {p t o K} [Decidable p] : grdP c (.s (.d (.v (.bool (decide p))))) t true o fr ch K =
    ((p → pureK c o (fr.set t (vB true)) ch K) ∧ (¬ p → K (putF (fr.set t (vB false)) o.dst .u) ch)) := by simp [grdP]
theorem grdP_df {p t o K} [Decidable p] : grdP c (.s (.d (.v (.bool (decide p))))) t false o fr ch K =
    ((¬ p → pureK c o (fr.set t (vB false)) ch K) ∧ (p → K (putF (fr.set t (vB true)) o.dst .u) ch)) := by simp [grdP]
theorem re_nil {ops p} : reAll c ops [] fr ch p = p := (_root_.id rfl)
theorem re_cons {ops i is p} : reAll c ops (i :: is) fr ch p = operK (ops[i]?) (Fz (fun o => Fact c ops o fr ch ∧ reAll c ops is fr ch p) (tag _)) := by
  simp only [reAll, operK, Fz]
  cases ops[i]? <;> rfl
def eqK (d : Option Tmp) (fr : List AV) (v : AV) : Prop := match d with
  | some d => fr.getD d .u = v
  | none => True
theorem eqK_some {d v} : eqK (some d) fr v = (fr.getD d .u = v) := (_root_.id rfl)
theorem eqK_none {v} : eqK none fr v = True := (_root_.id rfl)
theorem PF_eq {dst op ty pos after guard} : PF c ⟨dst, op, ty, pos, after, guard⟩ fr ch = withP (fstep c.tt c.wr fr ch op) (Fz (fun obl val => obl ∧ eqK dst fr val) (tag _)) := (_root_.id rfl)
theorem Fact_none {ops dst op ty pos after} : Fact c ops ⟨dst, op, ty, pos, after, none⟩ fr ch = PF c ⟨dst, op, ty, pos, after, none⟩ fr ch := (_root_.id rfl)
def grdF (c : Ctx) (x : AV) (want : Bool) (o : Oper) (fr : List AV) (ch : List Chunk) : Prop := match x with
  | .s (.d (.v (.bool b))) => (b = want → PF c o fr ch) ∧ (b = !want → SU o fr)
  | _ => False
theorem Fact_some {ops dst op ty pos after j want} : Fact c ops ⟨dst, op, ty, pos, after, some (j, want)⟩ fr ch =
    slotK ((ops[j]?).bind (·.dst)) (Fz (fun t => grdF c (fr.getD t .u) want ⟨dst, op, ty, pos, after, some (j, want)⟩ fr ch) (tag _)) := by
  simp only [Fact, slotK, Fz]
  cases (ops[j]?).bind (·.dst) <;> rfl
theorem grdF_tt {o} : grdF c (.s (.d (.v (.bool true)))) true o fr ch = PF c o fr ch := by simp [grdF]
theorem grdF_ff {o} : grdF c (.s (.d (.v (.bool false)))) false o fr ch = PF c o fr ch := by simp [grdF]
theorem grdF_tf {o} : grdF c (.s (.d (.v (.bool true)))) false o fr ch = SU o fr := by simp [grdF]
theorem grdF_ft {o} : grdF c (.s (.d (.v (.bool false)))) true o fr ch = SU o fr := by simp [grdF]
theorem SU_eq {dst op ty pos after guard} : SU ⟨dst, op, ty, pos, after, guard⟩ fr = eqK dst fr .u := by
  cases dst <;> rfl
def retV (m : Nat) (plain : Bool) (K : AV → List Chunk → Prop) (ch : List Chunk) (xs : Option (List AV)) : Prop := match xs with
  | some xs =>
    let order := closeAll ch (4 * ch.length + 8) (refsR (tupAV xs)) (List.range m)
    K (nrmR order (tupAV xs)) (order.map fun c => nrmCh order (ch.getD c .dead)) ∧
      match plain with
      | true => PlainAV (nrmR order (tupAV xs)) ∧ ∀ k ∈ (order.map fun c => nrmCh order (ch.getD c .dead)), PlainCh k
      | false => True
  | none => False
theorem retK_def {m plain rs K} : retK c m plain rs K fr ch = retV m plain K ch (resAVs c fr ch rs) := (_root_.id rfl)
theorem rs_nil : resAVs c fr ch [] = some [] := (_root_.id rfl)
def rsC (x : Option AV) (xs : Option (List AV)) : Option (List AV) := match x with
  | some x => match xs with
    | some xs => some (x :: xs)
    | none => none
  | none => none
theorem rs_cons {r rs} : resAVs c fr ch (r :: rs) = rsC (resAV c fr ch r) (resAVs c fr ch rs) := by
  simp only [resAVs, rsC]
  cases resAV c fr ch r <;> rfl
theorem rsC_some {x xs} : rsC (some x) (some xs) = some (x :: xs) := (_root_.id rfl)
theorem ra_tmp {t} : resAV c fr ch (.tmp t) = some (fr.getD t .u) := (_root_.id rfl)
def raV (r : Option FRes) : Option AV := match r with
  | some r => some r.val
  | none => none
theorem raV_some {p v f n} : raV (some ⟨p, v, f, n⟩) = some v := (_root_.id rfl)
theorem ra_cell {t ty} : resAV c fr ch (.cell t ty) = raV (loadR ch (c.tt ty) (fr.getD t .u)) := by
  simp only [resAV, loadR, raV]
  cases c.tt ty <;> rfl
theorem retV_nil {p K} : retV 0 p K ch (some []) = K (.t []) [] := by
  cases p <;> simp [retV, tupAV, refsR, closeAll, nrmR, PlainAV]
theorem retV_v {p K x} : retV 0 p K ch (some [.s (.d (.v x))]) = K (.s (.d (.v x))) [] := by
  cases p <;> simp [retV, tupAV, refsR, refsAV, refsAll, closeAll, nrmR, nrmAV, nrmA, PlainAV, PlainA, PlainD]
theorem retV_vv {p K x y} : retV 0 p K ch (some [.s (.d (.v x)), .s (.d (.v y))]) = K (.t [.s (.d (.v x)), .s (.d (.v y))]) [] := by
  cases p <;> simp [retV, tupAV, refsR, refsAV, refsAll, closeAll, nrmR, nrmAV, nrmA, PlainAV, PlainA, PlainD]
theorem retV_vvv {p K x y z} : retV 0 p K ch (some [.s (.d (.v x)), .s (.d (.v y)), .s (.d (.v z))]) = K (.t [.s (.d (.v x)), .s (.d (.v y)), .s (.d (.v z))]) [] := by
  cases p <;> simp [retV, tupAV, refsR, refsAV, refsAll, closeAll, nrmR, nrmAV, nrmA, PlainAV, PlainA, PlainD]
theorem br_if {b : Bool} {X Y : Prop} : ((b = true → X) ∧ (b = false → Y)) = if b = true then X else Y := by cases b <;> simp
theorem grdK_bt {b t o K} : grdK c (.s (.d (.v (.bool b)))) t true o fr ch K = if b = true then opX c o (fr.set t (vB true)) ch K else K (putF (fr.set t (vB false)) o.dst .u) ch := by cases b <;> simp [grdK]
theorem grdK_bf {b t o K} : grdK c (.s (.d (.v (.bool b)))) t false o fr ch K = if b = true then K (putF (fr.set t (vB true)) o.dst .u) ch else opX c o (fr.set t (vB false)) ch K := by cases b <;> simp [grdK]
theorem grdP_bt {b t o K} : grdP c (.s (.d (.v (.bool b)))) t true o fr ch K = if b = true then pureK c o (fr.set t (vB true)) ch K else K (putF (fr.set t (vB false)) o.dst .u) ch := by cases b <;> simp [grdP]
theorem grdP_bf {b t o K} : grdP c (.s (.d (.v (.bool b)))) t false o fr ch K = if b = true then K (putF (fr.set t (vB true)) o.dst .u) ch else pureK c o (fr.set t (vB false)) ch K := by cases b <;> simp [grdP]
theorem grdF_bt {b o} : grdF c (.s (.d (.v (.bool b)))) true o fr ch = if b = true then PF c o fr ch else SU o fr := by cases b <;> simp [grdF]
theorem grdF_bf {b o} : grdF c (.s (.d (.v (.bool b)))) false o fr ch = if b = true then SU o fr else PF c o fr ch := by cases b <;> simp [grdF]
theorem condK_i {m b x y K} : condK c m (.s (.d (.v (.bool b)))) x y fr ch K = if b = true then exec c m x fr ch K else exec c m y fr ch K := by cases b <;> simp [condK]
theorem bts_mk {l : List UInt8} : bts ⟨l.toArray⟩ = l := (_root_.id rfl)
theorem exec_loop {m a K} : exec c m (.loop a) fr ch K = ∃ (L : List (Nat × Bool)) (ι : Type) (st : ι → List AV × List Chunk) (ok : ι → Prop) (μ : ι → Nat),
      (∃ i, ok i ∧ norm m L fr ch = st i) ∧
      ∀ i, ok i → exec c m a (mkF fr.length L (st i).1) (st i).2 fun x fr' ch' => match x with
        | .n => ∃ j, ok j ∧ norm m L fr' ch' = st j ∧ μ j < μ i
        | .e i => K (.e i) fr' ch'
        | .r => K .r fr' ch' := (_root_.id rfl)
end Go.VC
end
