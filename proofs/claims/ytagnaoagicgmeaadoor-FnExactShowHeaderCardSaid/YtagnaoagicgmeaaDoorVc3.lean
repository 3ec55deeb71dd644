/- The verified condition generator: definitions and lemmas about the model; no program in sight. Conditions: none beyond what each theorem states. -/
import Derived.Test.YtagnaoagicgmeaaDoorVc2
set_option linter.all false
section
namespace Go.VC
open Go
variable {tt : TypeId → Option TI} {wr : Bool} {fr : List AV} {ch : List Chunk}
theorem fs_move {x} : fstep tt wr fr ch (.move x) = some ⟨True, aeval fr x, [], []⟩ := (_root_.id rfl)
theorem fs_assign {x} : fstep tt wr fr ch (.assign x) = some ⟨True, aeval fr x, [], []⟩ := (_root_.id rfl)
def pickR (c a b : AV) : Option FRes := match c with
  | .s (.d (.v (.bool x))) => pureR (bif x then a else b)
  | _ => none
theorem fs_pick {c a b} : fstep tt wr fr ch (.pick c a b) = pickR (aeval fr c) (aeval fr a) (aeval fr b) := (_root_.id rfl)
theorem pickR_t {a b} : pickR (.s (.d (.v (.bool true)))) a b = some ⟨True, a, [], []⟩ := (_root_.id rfl)
theorem pickR_f {a b} : pickR (.s (.d (.v (.bool false)))) a b = some ⟨True, b, [], []⟩ := (_root_.id rfl)
def allocR (n : Nat) (ti : Option TI) : Option FRes := match ti with
  | some ti => some ⟨True, .s (.ptr n 0), [], [.box (ti.zs.map .d)]⟩
  | none => none
theorem fs_alloc {t} : fstep tt wr fr ch (.alloc t) = allocR ch.length (tt t) := (_root_.id rfl)
theorem allocR_some {n ti} : allocR n (some ti) = some ⟨True, .s (.ptr n 0), [], [.box (ti.zs.map .d)]⟩ := (_root_.id rfl)
def boxR (n : Nat) (x : AV) : Option FRes := match avAs x with
  | some as => some ⟨True, .s (.ptr n 0), [], [.box as]⟩
  | none => none
theorem fs_box {t x} : fstep tt wr fr ch (.box t x) = boxR ch.length (aeval fr x) := (_root_.id rfl)
theorem boxR_s {n a} : boxR n (.s a) = some ⟨True, .s (.ptr n 0), [], [.box [a]]⟩ := (_root_.id rfl)
theorem boxR_g {n as} : boxR n (.g as) = some ⟨True, .s (.ptr n 0), [], [.box as]⟩ := (_root_.id rfl)
def buildR (fr : List AV) (ti : Option TI) (parts : List (Nat × Operand)) : Option FRes := match ti with
  | some (.st fs zs) => match fillA fs (zs.map .d) fr parts with
    | some cells => pureR (.g cells)
    | none => none
  | _ => none
theorem fs_build {t parts} : fstep tt wr fr ch (.build t parts) = buildR fr (tt t) parts.toList := (_root_.id rfl)
def packR (c : Option (List A)) : Option FRes := match c with
  | some cells => some ⟨True, .g cells, [], []⟩
  | none => none
theorem buildR_st {fs zs parts} : buildR fr (some (.st fs zs)) parts = packR (fillA fs (zs.map .d) fr parts) := (_root_.id rfl)
theorem packR_some {c} : packR (some c) = some ⟨True, .g c, [], []⟩ := (_root_.id rfl)
theorem fillA_nil {fs cells} : fillA fs cells fr [] = some cells := (_root_.id rfl)
def fillA1 (fs : List (Nat × Nat × Bool)) (fld : Option (Nat × Nat × Bool)) (x : AV) (cells : List A) (fr : List AV) (rest : List (Nat × Operand)) : Option (List A) := match fld with
  | some (off, n, _) => match avAs x with
    | some as => if as.length = n then fillA fs (setRange cells off as) fr rest else none
    | none => none
  | none => none
theorem fillA_cons {fs cells i x rest} : fillA fs cells fr ((i, x) :: rest) = fillA1 fs (fs[i]?) (aeval fr x) cells fr rest := (_root_.id rfl)
theorem fillA1_s {fs o b a cells rest} : fillA1 fs (some (o, 1, b)) (.s a) cells fr rest = fillA fs (setRange cells o [a]) fr rest := (_root_.id rfl)
theorem fillA1_g {fs o n b as cells rest} : fillA1 fs (some (o, n, b)) (.g as) cells fr rest = if as.length = n then fillA fs (setRange cells o as) fr rest else none := (_root_.id rfl)
def bsR (ch : List Chunk) (fr : List AV) (n : Nat) (ti : Option TI) (parts : List (Nat × Operand)) : Option FRes := match ti with
  | some (.sl wd _ _ zs) => match fillD ch wd (List.replicate n (zs.map unflag)) [] fr parts with
    | some (es, fz) => newSl ch (n * wd ≤ 16777216) fz wd es
    | none => none
  | _ => none
def newR (n : Nat) (p : Prop) (wd : Nat) (x : Option (List (List D) × List Nat)) : Option FRes := match x with
  | some (es, fz) => some ⟨p, .s (.own n), fz, [.sl (some false) wd es]⟩
  | none => none
theorem fs_buildSlice {t n parts} : fstep tt wr fr ch (.buildSlice t n parts) = bsR ch fr n (tt t) parts.toList := (_root_.id rfl)
theorem bsR_sl {n wd by_ ag zs parts} : bsR ch fr n (some (.sl wd by_ ag zs)) parts = newR ch.length (n * wd ≤ 16777216) wd (fillD ch wd (List.replicate n (zs.map unflag)) [] fr parts) := (_root_.id rfl)
theorem newR_some {n p wd es fz} : newR n p wd (some (es, fz)) = some ⟨p, .s (.own n), fz, [.sl (some false) wd es]⟩ := (_root_.id rfl)
theorem fillD_nil {wd es fz} : fillD ch wd es fz fr [] = some (es, fz) := (_root_.id rfl)
def fillD1 (ch : List Chunk) (wd : Nat) (es : List (List D)) (fz : List Nat) (fr : List AV) (i : Nat) (x : Option (List D × List Nat)) (rest : List (Nat × Operand)) : Option (List (List D) × List Nat) := match x with
  | some (ds, cs) => if ds.length = wd ∧ i < es.length then fillD ch wd (es.set i ds) (fz ++ cs) fr rest else none
  | none => none
theorem fillD_cons {wd es fz i x rest} : fillD ch wd es fz fr ((i, x) :: rest) = fillD1 ch wd es fz fr i (avDs ch (aeval fr x)) rest := (_root_.id rfl)
theorem fillD1_some {wd es fz i ds cs rest} : fillD1 ch wd es fz fr i (some (ds, cs)) rest = if ds.length = wd ∧ i < es.length then fillD ch wd (es.set i ds) (fz ++ cs) fr rest else none := (_root_.id rfl)
def loadR (ch : List Chunk) (ti : Option TI) (x : AV) : Option FRes := match ti with
  | some ti => aload ch ti x
  | none => none
theorem fs_load {t x} : fstep tt wr fr ch (.load t x) = loadR ch (tt t) (aeval fr x) := (_root_.id rfl)
def takeR (x : Option AV) : Option FRes := match x with
  | some v => some ⟨True, v, [], []⟩
  | none => none
theorem takeR_some {v} : takeR (some v) = some ⟨True, v, [], []⟩ := (_root_.id rfl)
def loadP (ti : TI) (off : Nat) (k : Chunk) : Option FRes := match k with
  | .box cells => takeR (takeT ti cells off)
  | _ => none
theorem loadP_box {ti off cells} : loadP ti off (.box cells) = takeR (takeT ti cells off) := (_root_.id rfl)
theorem loadR_ptr {ti c off} : loadR ch (some ti) (.s (.ptr c off)) = loadP ti off (ch.getD c .dead) := (_root_.id rfl)
def loadE (ti : TI) (i off : Nat) (k : Chunk) : Option FRes := match k with
  | .sl _ wd es => if off + ti.zs.length ≤ wd then match ti with
      | .st _ zs => pureR (.g ((rowT es i zs off).map .d))
      | .one z => pureR (.s (.d (cell es i off (unflag z))))
      | .sl w .. => pureR (.s (.d (cell es i off (.sl none w []))))
    else none
  | _ => none
theorem loadR_eptr {ti c i off} : loadR ch (some ti) (.s (.eptr c i off)) = loadE ti i off (ch.getD c .dead) := (_root_.id rfl)
theorem loadE_one {z i off nf wd es} : loadE (.one z) i off (.sl nf wd es) = if off + 1 ≤ wd then some ⟨True, .s (.d (cell es i off (unflag z))), [], []⟩ else none := (_root_.id rfl)
theorem loadE_sl {w b g zs i off nf wd es} : loadE (.sl w b g zs) i off (.sl nf wd es) = if off + 1 ≤ wd then some ⟨True, .s (.d (cell es i off (.sl none w []))), [], []⟩ else none := (_root_.id rfl)
theorem loadE_st {fs zs i off nf wd es} : loadE (.st fs zs) i off (.sl nf wd es) = if off + zs.length ≤ wd then some ⟨True, .g ((rowT es i zs off).map .d), [], []⟩ else none := (_root_.id rfl)
theorem loadR_dptr {ti cells} : loadR ch (some ti) (.s (.dptr cells)) = takeR (takeT ti (cells.map .d) 0) := (_root_.id rfl)
theorem takeT_one {z a as} : takeT (.one z) (a :: as) 0 = some (.s a) := (_root_.id rfl)
theorem takeT_sl {w b g zs a as} : takeT (.sl w b g zs) (a :: as) 0 = some (.s a) := (_root_.id rfl)
theorem takeT_one' {z a as n} : takeT (.one z) (a :: as) (n + 1) = takeT (.one z) as n := (_root_.id rfl)
theorem takeT_sl' {w b g zs a as n} : takeT (.sl w b g zs) (a :: as) (n + 1) = takeT (.sl w b g zs) as n := (_root_.id rfl)
theorem takeT_st {fs zs cells off} : takeT (.st fs zs) cells off = if off + zs.length ≤ cells.length then some (.g ((cells.drop off).take zs.length)) else none := (_root_.id rfl)
def ncR (ch : List Chunk) (x : AV) : Option FRes := match x with
  | .s (.ptr c off) => pureR (.s (.ptr c off))
  | .s (.eptr c i off) => match ch.getD c .dead with
    | .sl _ _ _ => pureR (.s (.eptr c i off))
    | _ => none
  | .s (.dptr cells) => pureR (.s (.dptr cells))
  | _ => none
theorem fs_nilCheck {x} : fstep tt wr fr ch (.nilCheck x) = ncR ch (aeval fr x) := (_root_.id rfl)
theorem ncR_ptr {c off} : ncR ch (.s (.ptr c off)) = some ⟨True, .s (.ptr c off), [], []⟩ := (_root_.id rfl)
def binR (wr : Bool) (ti : Option TI) (op : BinOp) (x y : AV) : Option FRes := match binTT ti op x with
  | true => abin wr op x y
  | false => none
theorem fs_bin {op t x y u} : fstep tt wr fr ch (.binOp op t x y u) = binR wr (tt t) op (aeval fr x) (aeval fr y) := (_root_.id rfl)
theorem b_add {ti k x k' y} : binR false ti .add (.s (.d (.v (.int k x)))) (.s (.d (.v (.int k' y)))) = if k = k' then some ⟨InK k (x + y), .s (.d (.v (.int k (x + y)))), [], []⟩ else none := by simp only [binR, binTT, abin, intBin]; rfl
theorem b_sub {ti k x k' y} : binR false ti .sub (.s (.d (.v (.int k x)))) (.s (.d (.v (.int k' y)))) = if k = k' then some ⟨InK k (x - y), .s (.d (.v (.int k (x - y)))), [], []⟩ else none := by simp only [binR, binTT, abin, intBin]; rfl
theorem b_mul {ti k x k' y} : binR false ti .mul (.s (.d (.v (.int k x)))) (.s (.d (.v (.int k' y)))) = if k = k' then some ⟨InK k (x * y), .s (.d (.v (.int k (x * y)))), [], []⟩ else none := by simp only [binR, binTT, abin, intBin]; rfl
theorem b_addw {ti k x k' y} : binR true ti .add (.s (.d (.v (.int k x)))) (.s (.d (.v (.int k' y)))) = if k = k' then some ⟨True, .s (.d (.v (.int k (k.wrap (x + y))))), [], []⟩ else none := by simp only [binR, binTT, abin, intBin]; rfl
theorem b_subw {ti k x k' y} : binR true ti .sub (.s (.d (.v (.int k x)))) (.s (.d (.v (.int k' y)))) = if k = k' then some ⟨True, .s (.d (.v (.int k (k.wrap (x - y))))), [], []⟩ else none := by simp only [binR, binTT, abin, intBin]; rfl
theorem b_mulw {ti k x k' y} : binR true ti .mul (.s (.d (.v (.int k x)))) (.s (.d (.v (.int k' y)))) = if k = k' then some ⟨True, .s (.d (.v (.int k (k.wrap (x * y))))), [], []⟩ else none := by simp only [binR, binTT, abin, intBin]; rfl
theorem b_quo {ti k x k' y} : binR wr ti .quo (.s (.d (.v (.int k x)))) (.s (.d (.v (.int k' y)))) = if k = k' then some ⟨y ≠ 0 ∧ InK k (x.tdiv y), .s (.d (.v (.int k (x.tdiv y)))), [], []⟩ else none := by simp only [binR, binTT, abin, intBin]; rfl
theorem b_rem {ti k x k' y} : binR wr ti .rem (.s (.d (.v (.int k x)))) (.s (.d (.v (.int k' y)))) = if k = k' then some ⟨y ≠ 0, .s (.d (.v (.int k (x.tmod y)))), [], []⟩ else none := by simp only [binR, binTT, abin, intBin]; rfl
theorem b_and {ti k x k' y} : binR wr ti .and (.s (.d (.v (.int k x)))) (.s (.d (.v (.int k' y)))) = if k = k' then some ⟨True, .s (.d (.v (.int k (bitop .and k x y)))), [], []⟩ else none := by simp only [binR, binTT, abin, intBin]; rfl
theorem b_or {ti k x k' y} : binR wr ti .or (.s (.d (.v (.int k x)))) (.s (.d (.v (.int k' y)))) = if k = k' then some ⟨True, .s (.d (.v (.int k (bitop .or k x y)))), [], []⟩ else none := by simp only [binR, binTT, abin, intBin]; rfl
theorem b_xor {ti k x k' y} : binR wr ti .xor (.s (.d (.v (.int k x)))) (.s (.d (.v (.int k' y)))) = if k = k' then some ⟨True, .s (.d (.v (.int k (bitop .xor k x y)))), [], []⟩ else none := by simp only [binR, binTT, abin, intBin]; rfl
theorem b_andNot {ti k x k' y} : binR wr ti .andNot (.s (.d (.v (.int k x)))) (.s (.d (.v (.int k' y)))) = if k = k' then some ⟨True, .s (.d (.v (.int k (bitop .andNot k x y)))), [], []⟩ else none := by simp only [binR, binTT, abin, intBin]; rfl
theorem b_eql {ti k x k' y} : binR wr ti .eql (.s (.d (.v (.int k x)))) (.s (.d (.v (.int k' y)))) = if k = k' then some ⟨True, .s (.d (.v (.bool (decide (x = y))))), [], []⟩ else none := by simp only [binR, binTT, abin, intBin]; rfl
theorem b_neq {ti k x k' y} : binR wr ti .neq (.s (.d (.v (.int k x)))) (.s (.d (.v (.int k' y)))) = if k = k' then some ⟨True, .s (.d (.v (.bool (!decide (x = y))))), [], []⟩ else none := by simp only [binR, binTT, abin, intBin]; rfl
theorem b_lss {ti k x k' y} : binR wr ti .lss (.s (.d (.v (.int k x)))) (.s (.d (.v (.int k' y)))) = if k = k' then some ⟨True, .s (.d (.v (.bool (decide (x < y))))), [], []⟩ else none := by simp only [binR, binTT, abin, intBin]; rfl
theorem b_leq {ti k x k' y} : binR wr ti .leq (.s (.d (.v (.int k x)))) (.s (.d (.v (.int k' y)))) = if k = k' then some ⟨True, .s (.d (.v (.bool (decide (x ≤ y))))), [], []⟩ else none := by simp only [binR, binTT, abin, intBin]; rfl
theorem b_gtr {ti k x k' y} : binR wr ti .gtr (.s (.d (.v (.int k x)))) (.s (.d (.v (.int k' y)))) = if k = k' then some ⟨True, .s (.d (.v (.bool (decide (y < x))))), [], []⟩ else none := by simp only [binR, binTT, abin, intBin]; rfl
theorem b_geq {ti k x k' y} : binR wr ti .geq (.s (.d (.v (.int k x)))) (.s (.d (.v (.int k' y)))) = if k = k' then some ⟨True, .s (.d (.v (.bool (decide (y ≤ x))))), [], []⟩ else none := by simp only [binR, binTT, abin, intBin]; rfl
theorem b_shl {ti k x k' y} : binR false ti .shl (.s (.d (.v (.int k x)))) (.s (.d (.v (.int k' y)))) = some ⟨0 ≤ y ∧ y < k.bits ∧ InK k (x * 2 ^ y.toNat), .s (.d (.v (.int k (x * 2 ^ y.toNat)))), [], []⟩ := by simp only [binR, binTT, abin]; rfl
theorem b_shlw {ti k x k' y} : binR true ti .shl (.s (.d (.v (.int k x)))) (.s (.d (.v (.int k' y)))) = some ⟨0 ≤ y, .s (.d (.v (.int k (k.wrap (x * 2 ^ min y.toNat k.bits))))), [], []⟩ := by simp only [binR, binTT, abin]; rfl
theorem b_shr {ti x k' y} : binR wr ti .shr (.s (.d (.v (.int .i64 x)))) (.s (.d (.v (.int k' y)))) = some ⟨0 ≤ y, .s (.d (.v (.int .i64 (ashr x y)))), [], []⟩ := by simp only [binR, binTT, abin]; rfl
theorem b_shru {ti x k' y} : binR wr ti .shr (.s (.d (.v (.int .u64 x)))) (.s (.d (.v (.int k' y)))) = some ⟨0 ≤ y, .s (.d (.v (.int .u64 (ashr x y)))), [], []⟩ := by simp only [binR, binTT, abin]; rfl
theorem b_shr8 {ti x k' y} : binR wr ti .shr (.s (.d (.v (.int .u8 x)))) (.s (.d (.v (.int k' y)))) = some ⟨0 ≤ y ∧ y < 8, .s (.d (.v (.int .u8 (ashr x y)))), [], []⟩ := by simp only [binR, binTT, abin]; rfl
theorem b_shr32 {ti x k' y} : binR wr ti .shr (.s (.d (.v (.int .u32 x)))) (.s (.d (.v (.int k' y)))) = some ⟨0 ≤ y ∧ y < 32, .s (.d (.v (.int .u32 (ashr x y)))), [], []⟩ := by simp only [binR, binTT, abin]; rfl
def bts (b : ByteArray) : List UInt8 := b.data.toList
theorem bts_str {l : List UInt8} : bts (str l) = l := (_root_.id rfl)
theorem str_bts {b : ByteArray} : str (bts b) = b := by cases b; simp [str, bts]
theorem b_sadd {ti x y} : binR wr ti .add (.s (.d (.v (.string x)))) (.s (.d (.v (.string y)))) = some ⟨(bts x).length + (bts y).length ≤ 4611686018427387904, .s (.d (.v (.string (str (bts x ++ bts y))))), [], []⟩ := by simp only [binR, binTT, abin, strBin]; rfl
theorem b_seql {ti x y} : binR wr ti .eql (.s (.d (.v (.string x)))) (.s (.d (.v (.string y)))) = some ⟨True, .s (.d (.v (.bool (decide (bts x = bts y))))), [], []⟩ := by simp only [binR, binTT, abin, strBin]; rfl
theorem b_sneq {ti x y} : binR wr ti .neq (.s (.d (.v (.string x)))) (.s (.d (.v (.string y)))) = some ⟨True, .s (.d (.v (.bool (!decide (bts x = bts y))))), [], []⟩ := by simp only [binR, binTT, abin, strBin]; rfl
theorem b_beql {b x y} : binR wr (some (.one (.v (.bool b)))) .eql (.s (.d (.v (.bool x)))) (.s (.d (.v (.bool y)))) = some ⟨True, .s (.d (.v (.bool (x == y)))), [], []⟩ := by simp only [binR, binTT, isBool, abin]; rfl
theorem b_bneq {b x y} : binR wr (some (.one (.v (.bool b)))) .neq (.s (.d (.v (.bool x)))) (.s (.d (.v (.bool y)))) = some ⟨True, .s (.d (.v (.bool (!(x == y))))), [], []⟩ := by simp only [binR, binTT, isBool, abin]; rfl
theorem b_nilt {w b g zs w1 e1 w2 e2} : binR wr (some (.sl w b g zs)) .eql (.s (.d (.sl (some true) w1 e1))) (.s (.d (.sl (some true) w2 e2))) = some ⟨True, .s (.d (.v (.bool true))), [], []⟩ := by simp only [binR, binTT, isSl, abin]; rfl
theorem b_nilf {w b g zs w1 e1 w2 e2} : binR wr (some (.sl w b g zs)) .eql (.s (.d (.sl (some false) w1 e1))) (.s (.d (.sl (some true) w2 e2))) = some ⟨True, .s (.d (.v (.bool false))), [], []⟩ := by simp only [binR, binTT, isSl, abin]; rfl
theorem fs_un {op t x} : fstep tt wr fr ch (.unOp op t x) = aun wr op (aeval fr x) := (_root_.id rfl)
theorem u_not {b} : aun wr .not (.s (.d (.v (.bool b)))) = some ⟨True, .s (.d (.v (.bool (!b)))), [], []⟩ := (_root_.id rfl)
theorem u_neg {k n} : aun false .neg (.s (.d (.v (.int k n)))) = some ⟨InK k (0 - n), .s (.d (.v (.int k (0 - n)))), [], []⟩ := (_root_.id rfl)
theorem fs_convert {s d x} : fstep tt wr fr ch (.convert s d x) = aconvert ch (tt s) (tt d) (aeval fr x) := (_root_.id rfl)
theorem c_int {a k n z x} : aconvert ch (some a) (some (.one (.v (.int k z)))) (.s (.d (.v (.int n x)))) = some ⟨True, .s (.d (.v (.int k (k.wrap x)))), [], []⟩ := by
  simp only [aconvert]; rfl
theorem c_str {b g z s nf es} : aconvert ch (some (.sl 1 b g [.v (.int .u8 z)])) (some (.one (.v (.string s)))) (.s (.d (.sl nf 1 es))) = some ⟨allBytes es, .s (.d (.v (.string (str (bytesOf es))))), [], []⟩ := (_root_.id rfl)
def cstrR (k : Chunk) : Option FRes := match k with
  | .sl _ 1 es => oblR (allBytes es) (vS (bytesOf es))
  | _ => none
theorem c_stro {b g z s c} : aconvert ch (some (.sl 1 b g [.v (.int .u8 z)])) (some (.one (.v (.string s)))) (.s (.own c)) = cstrR (ch.getD c .dead) := (_root_.id rfl)
theorem cstrR_sl {nf es} : cstrR (.sl nf 1 es) = some ⟨allBytes es, .s (.d (.v (.string (str (bytesOf es))))), [], []⟩ := (_root_.id rfl)
theorem c_bytes {b g z s x} : aconvert ch (some (.one (.v (.string s)))) (some (.sl 1 b g [.v (.int .u8 z)])) (.s (.d (.v (.string x)))) = some ⟨True, .s (.own ch.length), [], [.sl (some false) 1 (encB (bts x))]⟩ := (_root_.id rfl)
def mkfR (f : FuncId) (first : List Operand) (cs : Option (List Nat)) : Option FRes := match first, cs with
  | [], some cs => pureR (.s (.fn f cs))
  | _, _ => none
theorem fs_makeFunc {f first caps} : fstep tt wr fr ch (.makeFunc (.func f) first caps) = mkfR f first.toList (capsOf fr caps.toList) := (_root_.id rfl)
theorem mkfR_some {f cs} : mkfR f [] (some cs) = some ⟨True, .s (.fn f cs), [], []⟩ := (_root_.id rfl)
def msR (n : Nat) (ti : Option TI) (l c : Option Int) : Option FRes := match ti with
  | some (.sl wd by_ _ zs) => match l, c with
    | some a, some m => some ⟨0 ≤ a ∧ a ≤ m ∧ by_ * m ≤ 140737488355328 ∧ m ≤ 140737488355328, .s (.own n), [], [.sl (some false) wd (List.replicate a.toNat (zs.map unflag))]⟩
    | _, _ => none
  | _ => none
theorem fs_makeSlice {t l c} : fstep tt wr fr ch (.makeSlice t l c) = msR ch.length (tt t) (intOfAV (aeval fr l)) (intOfAV (aeval fr c)) := by
  simp only [fstep, msR, newSl]; rfl
theorem msR_some {n wd by_ ag zs a m} : msR n (some (.sl wd by_ ag zs)) (some a) (some m) = some ⟨0 ≤ a ∧ a ≤ m ∧ by_ * m ≤ 140737488355328 ∧ m ≤ 140737488355328, .s (.own n), [], [.sl (some false) wd (List.replicate a.toNat (zs.map unflag))]⟩ := (_root_.id rfl)
theorem fs_field {t x f} : fstep tt wr fr ch (.field t x f) = afield (tt t) (aeval fr x) f := (_root_.id rfl)
def faR (ch : List Chunk) (x : AV) (fld : Option (Nat × Nat × Bool)) : Option FRes := match fld with
  | some (o, _, _) => match x with
    | .s (.ptr c off) => pureR (.s (.ptr c (off + o)))
    | .s (.eptr c i off) => match ch.getD c .dead with
      | .sl _ _ _ => pureR (.s (.eptr c i (off + o)))
      | _ => none
    | .s (.dptr cells) => pureR (.s (.dptr (cells.drop o)))
    | _ => none
  | none => none
def faT (ch : List Chunk) (x : AV) (f : Nat) (ti : Option TI) : Option FRes := match ti with
  | some (.st fs _) => faR ch x (fs[f]?)
  | _ => none
theorem fs_fieldAddr {t x f} : fstep tt wr fr ch (.fieldAddr t x f) = faT ch (aeval fr x) f (tt t) := (_root_.id rfl)
theorem faT_st {x f fs zs} : faT ch x f (some (.st fs zs)) = faR ch x (fs[f]?) := (_root_.id rfl)
theorem faR_ptr {o n b c off} : faR ch (.s (.ptr c off)) (some (o, n, b)) = some ⟨True, .s (.ptr c (off + o)), [], []⟩ := (_root_.id rfl)
theorem faR_dptr {o n b cells} : faR ch (.s (.dptr cells)) (some (o, n, b)) = some ⟨True, .s (.dptr (cells.drop o)), [], []⟩ := (_root_.id rfl)
def slK (k : Chunk) (x : AV) : Option FRes := match k with
  | .sl _ _ _ => some ⟨True, x, [], []⟩
  | _ => none
theorem slK_sl {nf wd es x} : slK (.sl nf wd es) x = some ⟨True, x, [], []⟩ := (_root_.id rfl)
theorem faR_eptr {o n b c i off} : faR ch (.s (.eptr c i off)) (some (o, n, b)) = slK (ch.getD c .dead) (.s (.eptr c i (off + o))) := (_root_.id rfl)
def ixO (wd : Nat) (zs : List D) (c : Nat) (n : Int) (k : Chunk) : Option FRes := match k with
  | .sl _ wd' es => if wd = wd' then oblR (0 ≤ n ∧ n < es.length) (.s (.eptr c n.toNat 0)) else none
  | .fz _ wd' es => if wd = wd' then oblR (0 ≤ n ∧ n < es.length) (.s (.dptr (rowT es n.toNat zs 0))) else none
  | _ => none
def ixR (ch : List Chunk) (ti : Option TI) (x : AV) (i : AV) : Option FRes := aindexAddr ch ti x i
theorem fs_indexAddr {t x i} : fstep tt wr fr ch (.indexAddr t x i) = ixR ch (tt t) (aeval fr x) (aeval fr i) := (_root_.id rfl)
theorem ixR_own {wd b g zs c k n} : ixR ch (some (.sl wd b g zs)) (.s (.own c)) (.s (.d (.v (.int k n)))) = ixO wd zs c n (ch.getD c .dead) := (_root_.id rfl)
theorem ixR_d {wd b g zs nf wd' es k n} : ixR ch (some (.sl wd b g zs)) (.s (.d (.sl nf wd' es))) (.s (.d (.v (.int k n)))) =
    if wd = wd' then some ⟨0 ≤ n ∧ n < es.length, .s (.dptr (rowT es n.toNat zs 0)), [], []⟩ else none := (_root_.id rfl)
theorem ixO_sl {wd zs c n nf wd' es} : ixO wd zs c n (.sl nf wd' es) = if wd = wd' then some ⟨0 ≤ n ∧ n < es.length, .s (.eptr c n.toNat 0), [], []⟩ else none := (_root_.id rfl)
theorem ixO_fz {wd zs c n nf wd' es} : ixO wd zs c n (.fz nf wd' es) = if wd = wd' then some ⟨0 ≤ n ∧ n < es.length, .s (.dptr (rowT es n.toNat zs 0)), [], []⟩ else none := (_root_.id rfl)
def idxR (ti : Option TI) (x i : AV) : Option FRes := match isStr ti with
  | true => aindex x i
  | false => none
theorem fs_index {t x i} : fstep tt wr fr ch (.index t x i) = idxR (tt t) (aeval fr x) (aeval fr i) := (_root_.id rfl)
theorem idxR_s {s b k n} : idxR (some (.one (.v (.string s)))) (.s (.d (.v (.string b)))) (.s (.d (.v (.int k n)))) = some ⟨0 ≤ n ∧ n < (bts b).length, .s (.d (.v (.int .u8 ((bts b).getD n.toNat 0).toNat))), [], []⟩ := (_root_.id rfl)
def exR (x : AV) (i : Nat) : Option FRes := match x with
  | .t xs => match xs[i]? with
    | some (.s y) => pureR (.s y)
    | some (.g y) => pureR (.g y)
    | _ => none
  | _ => none
def exR1 (x : Option AV) : Option FRes := match x with
  | some (.s y) => some ⟨True, .s y, [], []⟩
  | some (.g y) => some ⟨True, .g y, [], []⟩
  | _ => none
theorem fs_extract {x i} : fstep tt wr fr ch (.extract x i) = exR (aeval fr x) i := (_root_.id rfl)
theorem exR_t {xs i} : exR (.t xs) i = exR1 (xs[i]?) := (_root_.id rfl)
theorem exR1_s {y} : exR1 (some (.s y)) = some ⟨True, .s y, [], []⟩ := (_root_.id rfl)
theorem exR1_g {y} : exR1 (some (.g y)) = some ⟨True, .g y, [], []⟩ := (_root_.id rfl)
def lenR (ch : List Chunk) (ti : Option TI) (x : AV) : Option FRes := match x with
  | .s (.d (.v (.string b))) => match isStr ti with
    | true => alen ch (.s (.d (.v (.string b))))
    | false => none
  | y => match isSl ti with
    | true => alen ch y
    | false => none
theorem fs_len {x t} : fstep tt wr fr ch (.call ⟨.builtin .len, #[x], #[t]⟩) = lenR ch (tt t) (aeval fr x) := (_root_.id rfl)
theorem len_s {s b} : lenR ch (some (.one (.v (.string s)))) (.s (.d (.v (.string b)))) = some ⟨True, .s (.d (.v (.int .i64 (bts b).length))), [], []⟩ := (_root_.id rfl)
theorem len_d {w b g zs nf wd es} : lenR ch (some (.sl w b g zs)) (.s (.d (.sl nf wd es))) = some ⟨True, .s (.d (.v (.int .i64 es.length))), [], []⟩ := (_root_.id rfl)
def lenO (k : Chunk) : Option FRes := match k with
  | .sl _ _ es => pureR (vI .i64 es.length)
  | .fz _ _ es => pureR (vI .i64 es.length)
  | _ => none
theorem len_o {w b g zs c} : lenR ch (some (.sl w b g zs)) (.s (.own c)) = lenO (ch.getD c .dead) := (_root_.id rfl)
theorem lenO_sl {nf wd es} : lenO (.sl nf wd es) = some ⟨True, .s (.d (.v (.int .i64 es.length))), [], []⟩ := (_root_.id rfl)
theorem lenO_fz {nf wd es} : lenO (.fz nf wd es) = some ⟨True, .s (.d (.v (.int .i64 es.length))), [], []⟩ := (_root_.id rfl)
theorem fs_max {x y t} : fstep tt wr fr ch (.call ⟨.builtin .max, #[x, y], t⟩) = takeR (amax true [aeval fr x, aeval fr y]) := (_root_.id rfl)
theorem fs_min {x y t} : fstep tt wr fr ch (.call ⟨.builtin .min, #[x, y], t⟩) = takeR (amax false [aeval fr x, aeval fr y]) := (_root_.id rfl)
theorem fs_max3 {x y z t} : fstep tt wr fr ch (.call ⟨.builtin .max, #[x, y, z], t⟩) = takeR (amax true [aeval fr x, aeval fr y, aeval fr z]) := (_root_.id rfl)
theorem fs_min3 {x y z t} : fstep tt wr fr ch (.call ⟨.builtin .min, #[x, y, z], t⟩) = takeR (amax false [aeval fr x, aeval fr y, aeval fr z]) := (_root_.id rfl)
def slcR (ch : List Chunk) (fr : List AV) (ti : Option TI) (x : AV) (lo hi : Option Operand) : Option FRes := match x with
  | .s (.d (.v (.string b))) => match isStr ti with
    | true => aslice ch fr 0 (.s (.d (.v (.string b)))) lo hi
    | false => none
  | y => match ti with
    | some (.sl w _ _ _) => aslice ch fr w y lo hi
    | _ => none
theorem fs_slice {t x lo hi} : fstep tt wr fr ch (.slice t x lo hi none) = slcR ch fr (tt t) (aeval fr x) lo hi := (_root_.id rfl)
def cutS (l : List UInt8) (lo hi : Option Int) : Option FRes := match lo, hi with
  | some a, some b => some ⟨0 ≤ a ∧ a ≤ b ∧ b ≤ l.length, .s (.d (.v (.string (str ((l.take b.toNat).drop a.toNat))))), [], []⟩
  | _, _ => none
theorem cutS_some {l a b} : cutS l (some a) (some b) = some ⟨0 ≤ a ∧ a ≤ b ∧ b ≤ l.length, .s (.d (.v (.string (str ((l.take b.toNat).drop a.toNat))))), [], []⟩ := (_root_.id rfl)
theorem sl_s {s b lo hi} : slcR ch fr (some (.one (.v (.string s)))) (.s (.d (.v (.string b)))) lo hi = cutS (bts b) (optInt fr 0 lo) (optInt fr (bts b).length hi) := by
  simp only [slcR, isStr, aslice, bts]
  generalize optInt fr 0 lo = p
  generalize optInt fr _ hi = q
  cases p <;> cases q <;> rfl
def cutD (fz : List Nat) (wd : Nat) (es : List (List D)) (lo hi : Option Int) : Option FRes := match lo, hi with
  | some a, some b => some ⟨0 ≤ a ∧ a ≤ b ∧ b ≤ es.length, .s (.d (.sl none wd ((es.take b.toNat).drop a.toNat))), fz, []⟩
  | _, _ => none
theorem cutD_some {fz wd es a b} : cutD fz wd es (some a) (some b) = some ⟨0 ≤ a ∧ a ≤ b ∧ b ≤ es.length, .s (.d (.sl none wd ((es.take b.toNat).drop a.toNat))), fz, []⟩ := (_root_.id rfl)
theorem sl_d {w b g zs nf wd es lo hi} : slcR ch fr (some (.sl w b g zs)) (.s (.d (.sl nf wd es))) lo hi = if w = wd then cutD [] wd es (optInt fr 0 lo) (optInt fr es.length hi) else none := by
  simp only [slcR, aslice]
  generalize optInt fr 0 lo = p
  generalize optInt fr _ hi = q
  split
  · cases p <;> cases q <;> rfl
  · rfl
def cutO (fr : List AV) (w c : Nat) (lo hi : Option Operand) (k : Chunk) : Option FRes := match k with
  | .sl _ wd es => if w = wd then cutD [c] wd es (optInt fr 0 lo) (optInt fr es.length hi) else none
  | _ => none
theorem sl_o {w b g zs c lo hi} : slcR ch fr (some (.sl w b g zs)) (.s (.own c)) lo hi = cutO fr w c lo hi (ch.getD c .dead) := by
  simp only [slcR, aslice, cutO]
  generalize ch.getD c .dead = k
  cases k with
  | sl nf wd es =>
    simp only []
    generalize optInt fr 0 lo = p
    generalize optInt fr _ hi = q
    split
    · cases p <;> cases q <;> rfl
    · rfl
  | _ => rfl
theorem cutO_sl {w c lo hi nf wd es} : cutO fr w c lo hi (.sl nf wd es) = if w = wd then cutD [c] wd es (optInt fr 0 lo) (optInt fr es.length hi) else none := (_root_.id rfl)
theorem optInt_none {d} : optInt fr d none = some d := (_root_.id rfl)
theorem optInt_some {d x} : optInt fr d (some x) = intOfAV (aeval fr x) := (_root_.id rfl)
theorem intOf_i {k n} : intOfAV (.s (.d (.v (.int k n)))) = some n := (_root_.id rfl)
theorem ae_tmp {t} : aeval fr (.tmp t) = fr.getD t .u := (_root_.id rfl)
theorem ae_int {k n} : aeval fr (.const (.int k n)) = .s (.d (.v (.int k n))) := (_root_.id rfl)
theorem ae_bool {b} : aeval fr (.const (.bool b)) = .s (.d (.v (.bool b))) := (_root_.id rfl)
theorem ae_str {b} : aeval fr (.const (.string b)) = .s (.d (.v (.string b))) := (_root_.id rfl)
theorem ae_nilf : aeval fr (.const .nilFunc) = .s (.d (.v .nilFunc)) := (_root_.id rfl)
theorem ae_nili : aeval fr (.const .nilIface) = .s (.d (.v .nilIface)) := (_root_.id rfl)
theorem ae_nilp : aeval fr (.const (.pointer none)) = .s (.d (.v (.pointer none))) := (_root_.id rfl)
theorem ae_nils : aeval fr (.const (.slice none 0 0)) = .s (.d (.sl (some true) 0 [])) := (_root_.id rfl)
theorem ae_func {f} : aeval fr (.func f) = .s (.fn f []) := (_root_.id rfl)
theorem fch_0 {p v} : (FRes.mk p v [] []).ch ch = ch := by simp [FRes.ch, freezeAll]
theorem fch_n {p v k} : (FRes.mk p v [] [k]).ch ch = ch ++ [k] := by simp [FRes.ch, freezeAll]
theorem fch_f {p v c cs n} : (FRes.mk p v (c :: cs) n).ch ch = freezeAll ch (c :: cs) ++ n := (_root_.id rfl)
theorem fz_nil : freezeAll ch [] = ch := (_root_.id rfl)
def fz1 (ch : List Chunk) (c : Nat) (k : Chunk) : List Chunk := match k with
  | .sl nf wd es => ch.set c (.fz nf wd es)
  | _ => ch
theorem fz_cons {c cs} : freezeAll ch (c :: cs) = freezeAll (fz1 ch c (ch.getD c .dead)) cs := by
  rw [freezeAll]
  generalize ch.getD c .dead = k
  cases k <;> rfl
theorem fz1_sl {c nf wd es} : fz1 ch c (.sl nf wd es) = ch.set c (.fz nf wd es) := (_root_.id rfl)
theorem fz1_fz {c nf wd es} : fz1 ch c (.fz nf wd es) = ch := (_root_.id rfl)
theorem gd0 {α} {a d : α} {l : List α} : (a :: l).getD 0 d = a := (_root_.id rfl)
theorem gdS {α} {a d : α} {l : List α} {n : Nat} : (a :: l).getD (n + 1) d = l.getD n d := (_root_.id rfl)
theorem gdN {α} {d : α} {n : Nat} : ([] : List α).getD n d = d := (_root_.id rfl)
theorem st0 {α} {a b : α} {l : List α} : (a :: l).set 0 b = b :: l := (_root_.id rfl)
theorem stS {α} {a b : α} {l : List α} {n : Nat} : (a :: l).set (n + 1) b = a :: l.set n b := (_root_.id rfl)
theorem ge0 {α} {a : α} {l : List α} : (a :: l)[0]? = some a := (_root_.id rfl)
theorem geS {α} {a : α} {l : List α} {n : Nat} : (a :: l)[n + 1]? = l[n]? := by simp
theorem geN {α} {n : Nat} : ([] : List α)[n]? = none := (_root_.id rfl)
end Go.VC
end
