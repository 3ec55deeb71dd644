/- The verified condition generator: definitions and lemmas about the model; no program in sight. Conditions: none beyond what each theorem states. -/
import Derived.Test.YtagnaoagicgmeaaDoorVc4
set_option linter.all false
section
namespace Go.VC
open Go
variable {fr : List AV} {ch : List Chunk} {c : Ctx}
theorem loop_rule {m : Nat} {a : Code} {K : KX} (L : List (Nat × Bool)) {ι : Type} (st : ι → List AV × List Chunk) (ok : ι → Prop) (μ : ι → Nat) (i0 : ι) (h0 : ok i0) (hn : norm m L fr ch = st i0)
    (h : ∀ i, ok i → exec c m a (mkF fr.length L (st i).1) (st i).2 (Fz (fun x fr' ch' => match x with
        | .n => ∃ j, ok j ∧ norm m L fr' ch' = st j ∧ μ j < μ i
        | .e i => K (.e i) fr' ch'
        | .r => K .r fr' ch') (tag _))) : exec c m (.loop a) fr ch K :=
  ⟨L, ι, st, ok, μ, ⟨i0, h0, hn⟩, h⟩
def ownL (fr : List AV) : List (Nat × Bool) → List Nat
  | [] => []
  | (t, b) :: l => (match b with
    | true => ownRefs (fr.getD t .u)
    | false => []) ++ ownL fr l
def valL (fr : List AV) (ch1 : List Chunk) : List (Nat × Bool) → List AV
  | [] => []
  | (t, b) :: l => (match b with
    | true => dataAV ch1 (fr.getD t .u)
    | false => fr.getD t .u) :: valL fr ch1 l
def nm4 (ch1 : List Chunk) (vals : List AV) (order : List Nat) : List AV × List Chunk := (vals.map (nrmAV order), order.map fun c => nrmCh order (ch1.getD c .dead))
def nm3 (m : Nat) (ch1 : List Chunk) (vals : List AV) : List AV × List Chunk := nm4 ch1 vals (closeAll ch1 (4 * ch1.length + 8) (vals.flatMap refsAV) (List.range m))
def nm2 (m : Nat) (ch1 : List Chunk) (L : List (Nat × Bool)) (fr : List AV) : List AV × List Chunk := nm3 m ch1 (valL fr ch1 L)
theorem ownL_eq : ∀ L : List (Nat × Bool), (L.flatMap fun p => match p.2 with
    | true => ownRefs (fr.getD p.1 .u)
    | false => []) = ownL fr L := by
  intro L
  induction L with
  | nil => rfl
  | cons p L ih => obtain ⟨t, b⟩ := p; cases b <;> simp only [List.flatMap_cons, ih, ownL]
theorem valL_eq {ch1 : List Chunk} : ∀ L : List (Nat × Bool), (L.map fun p => match p.2 with
    | true => dataAV ch1 (fr.getD p.1 .u)
    | false => fr.getD p.1 .u) = valL fr ch1 L := by
  intro L
  induction L with
  | nil => rfl
  | cons p L ih => obtain ⟨t, b⟩ := p; cases b <;> simp only [List.map_cons, ih, valL]
theorem norm_eq {m L} : norm m L fr ch = nm2 m (freezeAll ch (ownL fr L)) L fr := by
  simp only [nm2, nm3, nm4]
  rw [← ownL_eq, ← valL_eq]
  rfl
theorem nm2_eq {m L} : nm2 m ch L fr = nm3 m ch (valL fr ch L) := (_root_.id rfl)
theorem nm3_eq {m vals} : nm3 m ch vals = nm4 ch vals (closeAll ch (4 * ch.length + 8) (vals.flatMap refsAV) (List.range m)) := (_root_.id rfl)
theorem nm4_eq {vals order} : nm4 ch vals order = (vals.map (nrmAV order), order.map fun c => nrmCh order (ch.getD c .dead)) := (_root_.id rfl)
theorem owl_nil : ownL fr [] = [] := (_root_.id rfl)
theorem owl_t {t l} : ownL fr ((t, true) :: l) = ownRefs (fr.getD t .u) ++ ownL fr l := (_root_.id rfl)
theorem owl_f {t l} : ownL fr ((t, false) :: l) = ownL fr l := (_root_.id rfl)
theorem val_nil : valL fr ch [] = [] := (_root_.id rfl)
theorem val_t {t l} : valL fr ch ((t, true) :: l) = dataAV ch (fr.getD t .u) :: valL fr ch l := (_root_.id rfl)
theorem val_f {t l} : valL fr ch ((t, false) :: l) = fr.getD t .u :: valL fr ch l := (_root_.id rfl)
theorem or_own {x} : ownRefs (.s (.own x)) = [x] := (_root_.id rfl)
theorem or_d {x} : ownRefs (.s (.d x)) = [] := (_root_.id rfl)
theorem or_u : ownRefs .u = [] := (_root_.id rfl)
theorem da_d {x} : dataAV ch (.s (.d x)) = .s (.d (unflag x)) := (_root_.id rfl)
def daC (x : Nat) (k : Chunk) : A := match k with
  | .fz _ wd es => .d (.sl none wd es)
  | _ => .own x
theorem da_own {x} : dataAV ch (.s (.own x)) = .s (daC x (ch.getD x .dead)) := (_root_.id rfl)
theorem daC_fz {x nf wd es} : daC x (.fz nf wd es) = .d (.sl none wd es) := (_root_.id rfl)
theorem uf_v {x} : unflag (.v x) = .v x := (_root_.id rfl)
theorem uf_sl {nf wd es} : unflag (.sl nf wd es) = .sl none wd es := (_root_.id rfl)
theorem rf_d {x} : refsAV (.s (.d x)) = [] := (_root_.id rfl)
theorem rf_own {x} : refsAV (.s (.own x)) = [x] := (_root_.id rfl)
theorem rf_ptr {x o} : refsAV (.s (.ptr x o)) = [x] := (_root_.id rfl)
theorem rf_eptr {x i o} : refsAV (.s (.eptr x i o)) = [x] := (_root_.id rfl)
theorem rf_dptr {x} : refsAV (.s (.dptr x)) = [] := (_root_.id rfl)
theorem rf_fn {f cs} : refsAV (.s (.fn f cs)) = cs := (_root_.id rfl)
theorem rf_junk : refsAV (.s .junk) = [] := (_root_.id rfl)
theorem rf_g {as} : refsAV (.g as) = as.flatMap refsAll := (_root_.id rfl)
theorem rf_t {xs} : refsAV (.t xs) = [] := (_root_.id rfl)
theorem rf_u : refsAV .u = [] := (_root_.id rfl)
theorem rl_d {x} : refsAll (.d x) = [] := (_root_.id rfl)
theorem rl_own {x} : refsAll (.own x) = [x] := (_root_.id rfl)
theorem rl_ptr {x o} : refsAll (.ptr x o) = [x] := (_root_.id rfl)
theorem rl_fn {f cs} : refsAll (.fn f cs) = cs := (_root_.id rfl)
theorem ca_nil {n done} : closeAll ch n [] done = done := by cases n <;> rfl
def ca1 (ch : List Chunk) (n x : Nat) (todo done : List Nat) (b : Bool) (k : Chunk) : List Nat := match b with
  | true => closeAll ch n todo done
  | false => match k with
    | .box cells => closeAll ch n (cells.flatMap refsAll ++ todo) (done ++ [x])
    | .dead => closeAll ch n todo done
    | _ => closeAll ch n todo (done ++ [x])
theorem ca_cons {n x todo done} : closeAll ch (n + 1) (x :: todo) done = ca1 ch n x todo done (done.contains x) (ch.getD x .dead) := by
  simp only [closeAll, ca1]
  cases done.contains x <;> cases ch.getD x .dead <;> rfl
theorem ca1_t {n x todo done k} : ca1 ch n x todo done true k = closeAll ch n todo done := (_root_.id rfl)
theorem ca1_box {n x todo done cells} : ca1 ch n x todo done false (.box cells) = closeAll ch n (cells.flatMap refsAll ++ todo) (done ++ [x]) := (_root_.id rfl)
theorem ca1_sl {n x todo done nf wd es} : ca1 ch n x todo done false (.sl nf wd es) = closeAll ch n todo (done ++ [x]) := (_root_.id rfl)
theorem ca1_fz {n x todo done nf wd es} : ca1 ch n x todo done false (.fz nf wd es) = closeAll ch n todo (done ++ [x]) := (_root_.id rfl)
theorem na_s {order a} : nrmAV order (.s a) = .s (nrmA order a) := (_root_.id rfl)
theorem na_g {order as} : nrmAV order (.g as) = .g (as.map (nrmA order)) := (_root_.id rfl)
theorem na_t {order xs} : nrmAV order (.t xs) = .u := (_root_.id rfl)
theorem na_u {order} : nrmAV order .u = .u := (_root_.id rfl)
theorem nA_d {order x} : nrmA order (.d x) = .d x := (_root_.id rfl)
def nrmO (i : Option Nat) : A := match i with
  | some i => .own i
  | none => .junk
def nrmP (off : Nat) (i : Option Nat) : A := match i with
  | some i => .ptr i off
  | none => .junk
def nrmE2 (j off : Nat) (i : Option Nat) : A := match i with
  | some i => .eptr i j off
  | none => .junk
theorem nA_own {order x} : nrmA order (.own x) = nrmO (idx order x) := (_root_.id rfl)
theorem nrmO_some {i} : nrmO (some i) = .own i := (_root_.id rfl)
theorem nA_ptr {order x o} : nrmA order (.ptr x o) = nrmP o (idx order x) := (_root_.id rfl)
theorem nrmP_some {i o} : nrmP o (some i) = .ptr i o := (_root_.id rfl)
theorem nA_eptr {order x j o} : nrmA order (.eptr x j o) = nrmE2 j o (idx order x) := (_root_.id rfl)
theorem nrmE2_some {i j o} : nrmE2 j o (some i) = .eptr i j o := (_root_.id rfl)
theorem nA_dptr {order x} : nrmA order (.dptr x) = .dptr x := (_root_.id rfl)
theorem nA_junk {order} : nrmA order .junk = .junk := (_root_.id rfl)
theorem nA_fn0 {order f} : nrmA order (.fn f []) = .fn f [] := (_root_.id rfl)
theorem nC_box {order cells} : nrmCh order (.box cells) = .box (cells.map (nrmA order)) := (_root_.id rfl)
theorem nC_sl {order nf wd es} : nrmCh order (.sl nf wd es) = .sl nf wd es := (_root_.id rfl)
theorem nC_fz {order nf wd es} : nrmCh order (.fz nf wd es) = .fz nf wd es := (_root_.id rfl)
theorem nC_dead {order} : nrmCh order .dead = .dead := (_root_.id rfl)
theorem rg0 : List.range 0 = [] := (_root_.id rfl)
theorem rg1 : List.range 1 = [0] := (_root_.id rfl)
theorem rg2 : List.range 2 = [0, 1] := (_root_.id rfl)
theorem rg3 : List.range 3 = [0, 1, 2] := (_root_.id rfl)
theorem rg4 : List.range 4 = [0, 1, 2, 3] := (_root_.id rfl)
theorem mk_eq {n L vals} : mkF n L vals = mkF.go (List.replicate n .u) L vals := (_root_.id rfl)
theorem mk_cons {p ps v vs} : mkF.go fr (p :: ps) (v :: vs) = mkF.go (fr.set p.1 v) ps vs := (_root_.id rfl)
theorem mk_nil {vs} : mkF.go fr [] vs = fr := by cases vs <;> rfl
def ints (l : List Int) : List (List D) := l.map fun n => [.v (.int .i64 n)]
theorem ints_len {l : List Int} : (ints l).length = l.length := by simp [ints]
theorem ints_nil : ints [] = [] := (_root_.id rfl)
theorem ints_app {l : List Int} {n : Int} : ints l ++ [[.v (.int .i64 n)]] = ints (l ++ [n]) := by simp [ints]
theorem ints_app2 {l k : List Int} : ints l ++ ints k = ints (l ++ k) := by simp [ints]
theorem ints_inj {l k : List Int} : ints l = ints k ↔ l = k := by
  constructor
  · intro h
    induction l generalizing k with
    | nil => cases k <;> simp_all [ints]
    | cons a l ih =>
      cases k with
      | nil => simp [ints] at h
      | cons b k =>
        simp only [ints, List.map_cons, List.cons.injEq] at h
        obtain ⟨h1, h2⟩ := h
        simp at h1
        rw [h1, ih h2]
  · rintro rfl; rfl
theorem ints_cell {l : List Int} {i : Nat} {z : Int} : cell (ints l) i 0 (.v (.int .i64 z)) = .v (.int .i64 (l.getD i z)) := by
  simp only [cell, getc, ints, List.getElem?_map, List.getD_eq_getElem?_getD]
  cases l[i]? <;> rfl
theorem ints_take {l : List Int} {n : Nat} : (ints l).take n = ints (l.take n) := by simp [ints, List.map_take]
theorem ints_drop {l : List Int} {n : Nat} : (ints l).drop n = ints (l.drop n) := by simp [ints, List.map_drop]
theorem ints_set {l : List Int} {n : Nat} {x : Int} : (ints l).set n [.v (.int .i64 x)] = ints (l.set n x) := by simp [ints, List.map_set]
theorem ints_rep {n : Nat} {x : Int} : List.replicate n [D.v (.int .i64 x)] = ints (List.replicate n x) := by simp [ints]
theorem rt_nil {es : List (List D)} {i j} : rowT es i [] j = [] := (_root_.id rfl)
theorem rt_cons {es : List (List D)} {i z zs j} : rowT es i (z :: zs) j = cell es i j (unflag z) :: rowT es i zs (j + 1) := (_root_.id rfl)
theorem encB_len {l : List UInt8} : (encB l).length = l.length := by simp [encB]
theorem encB_all {l : List UInt8} : allBytes (encB l) := by
  intro e he
  simp only [encB, List.mem_map] at he
  obtain ⟨b, _, rfl⟩ := he
  exact ⟨_, rfl⟩
theorem encB_bytes {l : List UInt8} : bytesOf (encB l) = l := by
  simp only [bytesOf, encB, List.map_map]
  conv => rhs; rw [← List.map_id l]
  apply List.map_congr_left
  intro b _
  simp
theorem encB_app2 {l k : List UInt8} : encB l ++ encB k = encB (l ++ k) := by simp [encB]
theorem encB_cell {l : List UInt8} {i : Nat} : cell (encB l) i 0 (.v (.int .u8 0)) = .v (.int .u8 ((l.getD i 0).toNat)) := by
  simp only [cell, getc, encB, List.getElem?_map, List.getD_eq_getElem?_getD]
  cases l[i]? <;> rfl
def strs (l : List (List UInt8)) : List (List D) := l.map fun s => [.v (.string (str s))]
theorem strs_len {l : List (List UInt8)} : (strs l).length = l.length := by simp [strs]
theorem strs_app {l : List (List UInt8)} {n : List UInt8} : strs l ++ [[.v (.string (str n))]] = strs (l ++ [n]) := by simp [strs]
theorem strs_app2 {l k : List (List UInt8)} : strs l ++ strs k = strs (l ++ k) := by simp [strs]
theorem strs_cell {l : List (List UInt8)} {i : Nat} : cell (strs l) i 0 (.v (.string (str []))) = .v (.string (str (l.getD i []))) := by
  simp only [cell, getc, strs, List.getElem?_map, List.getD_eq_getElem?_getD]
  cases l[i]? <;> rfl
theorem ae_str2 {l : List UInt8} : aeval fr (.const (.string ⟨l.toArray⟩)) = .s (.d (.v (.string (str l)))) := (_root_.id rfl)
theorem strs_f0 {a : List UInt8} : [[D.v (.string (str a))]] = strs [a] := (_root_.id rfl)
theorem strs_f1 {a : List UInt8} {l : List (List UInt8)} : [D.v (.string (str a))] :: strs l = strs (a :: l) := (_root_.id rfl)
theorem ints_f0 {a : Int} : [[D.v (.int .i64 a)]] = ints [a] := (_root_.id rfl)
theorem ints_f1 {a : Int} {l : List Int} : [D.v (.int .i64 a)] :: ints l = ints (a :: l) := (_root_.id rfl)
theorem strs_set {l : List (List UInt8)} {n : Nat} {x : List UInt8} : (strs l).set n [.v (.string (str x))] = strs (l.set n x) := by simp [strs, List.map_set]
theorem strs_take {l : List (List UInt8)} {n : Nat} : (strs l).take n = strs (l.take n) := by simp [strs, List.map_take]
theorem strs_drop {l : List (List UInt8)} {n : Nat} : (strs l).drop n = strs (l.drop n) := by simp [strs, List.map_drop]
def ownV (K : AV → List Chunk → Prop) (plain : Bool) (ch : List Chunk) (c : Nat) (k : Chunk) : Prop := match k with
  | .sl nf wd es => K (.s (.own 0)) [.sl nf wd es] ∧ match plain with
    | true => ∀ e ∈ es, ∀ d ∈ e, PlainD d
    | false => True
  | _ => retV 0 plain K ch (some [.s (.own c)])
theorem ownV_f {K ch c nf wd es} : ownV K false ch c (.sl nf wd es) = K (.s (.own 0)) [.sl nf wd es] := by simp [ownV]
theorem ownV_t {K ch c nf wd es} : ownV K true ch c (.sl nf wd es) = (K (.s (.own 0)) [.sl nf wd es] ∧ ∀ e ∈ es, ∀ d ∈ e, PlainD d) := by simp [ownV]
theorem retV_o {plain K c} : retV 0 plain K ch (some [.s (.own c)]) = ownV K plain ch c (ch.getD c .dead) := by
  generalize hk : ch.getD c .dead = k
  cases k with
  | sl nf wd es =>
    have hlt : c < ch.length := by
      rcases Nat.lt_or_ge c ch.length with h | h
      · exact h
      · rw [List.getD_eq_getElem?_getD, List.getElem?_eq_none h] at hk; cases hk
    have hg : ch[c]? = some (.sl nf wd es) := getD_some hk (by simp)
    have hcl : closeAll ch (4 * ch.length + 8) [c] [] = [c] := by
      rw [show 4 * ch.length + 8 = (4 * ch.length + 7) + 1 by omega, ca_cons, hk]
      simp [ca1, ca_nil]
    cases plain <;> simp [retV, ownV, tupAV, refsR, refsAV, refsAll, hcl, nrmR, nrmAV, nrmA, idx, hg, nrmCh, PlainAV, PlainA, PlainCh]
  | _ => simp only [ownV]
def plnP (plain : Bool) (v : AV) (chs : List Chunk) : Prop := match plain with
  | true => PlainAV v ∧ ∀ k ∈ chs, PlainCh k
  | false => True
theorem plnP_f {v chs} : plnP false v chs = True := (_root_.id rfl)
theorem plnP_t {v chs} : plnP true v chs = (PlainAV v ∧ ∀ k ∈ chs, PlainCh k) := (_root_.id rfl)
def rtK (p : Bool) (K : AV → List Chunk → Prop) (v : AV) (chs : List Chunk) : Prop := K v chs ∧ plnP p v chs
theorem rtK_eq {p K v chs} : rtK p K v chs = (K v chs ∧ plnP p v chs) := (_root_.id rfl)
def rtO (p : Bool) (K : AV → List Chunk → Prop) (ch : List Chunk) (v : AV) (order : List Nat) : Prop := rtK p K (nrmR order v) (order.map fun c => nrmCh order (ch.getD c .dead))
theorem rtO_eq {p K v order} : rtO p K ch v order = rtK p K (nrmR order v) (order.map fun c => nrmCh order (ch.getD c .dead)) := (_root_.id rfl)
theorem retV_g {p m K as} : retV m p K ch (some [.g as]) = rtO p K ch (.g as) (closeAll ch (4 * ch.length + 8) (as.flatMap refsAll) (List.range m)) := by
  cases p <;> simp [retV, rtO, rtK, plnP, tupAV, refsR, refsAV]
theorem nR_g {order as} : nrmR order (.g as) = .g (as.map (nrmA order)) := (_root_.id rfl)
theorem ints_plain {l : List Int} : ∀ e ∈ ints l, ∀ d ∈ e, PlainD d := by
  intro e he d hd
  simp only [ints, List.mem_map] at he
  obtain ⟨n, _, rfl⟩ := he
  simp at hd; subst hd; trivial
theorem andI {p q : Prop} (hp : p) (hq : p → q) : andK p q := ⟨hp, hq⟩
theorem nfUp_f : nfUp (some false) = some false := (_root_.id rfl)
theorem nfUp_t : nfUp (some true) = none := (_root_.id rfl)
theorem nfUp_n : nfUp none = none := (_root_.id rfl)
end Go.VC
end
