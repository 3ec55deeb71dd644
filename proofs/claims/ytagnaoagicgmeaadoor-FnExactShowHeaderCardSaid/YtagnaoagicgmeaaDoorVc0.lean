/- The verified condition generator: definitions and lemmas about the model; no program in sight. Conditions: none beyond what each theorem states. -/
import Derived.Tactics
import Derived.Below
import Derived.Laws.BytesString
set_option linter.all false
section
namespace Go.VC
open Go
def plain : Value → Bool
  | .bool _ | .int _ _ | .string _ | .nilFunc | .nilIface | .pointer none => true
  | _ => false
def one1 : Value → Bool
  | .agg _ | .tuple _ => false
  | _ => true
theorem plain_one1 {v : Value} (h : plain v = true) : one1 v = true := by
  cases v <;> simp_all [plain, one1]
inductive D where
  | v (x : Value)
  | sl (nf : Option Bool) (wd : Nat) (es : List (List D))
  deriving Inhabited
def getc (es : List (List D)) (i j : Nat) : Option D := (es[i]?).bind (·[j]?)
inductive Rd (w : World) (O : Nat → Prop) : D → Value → Prop
  | v (x : Value) : plain x = true → Rd w O (.v x) x
  | nil (nf : Option Bool) (wd : Nat) : nf ≠ some false → Rd w O (.sl nf wd []) (.slice none 0 0)
  | sl (nf : Option Bool) (wd : Nat) (es : List (List D)) (b off cap : Nat) (f : Nat → Nat → Value) : nf ≠ some true → es.length ≤ cap →
      (∀ e ∈ es, e.length = wd) →
      (∀ i j d, getc es i j = some d → ¬ O b ∧ w.cell? ⟨b, off + (i * wd + j), none⟩ = some (f i j)) →
      (∀ i j d, getc es i j = some d → Rd w O d (f i j)) →
      Rd w O (.sl nf wd es) (.slice (some ⟨b, off, none⟩) es.length cap)
theorem Rd.oneCell {w : World} {O : Nat → Prop} {d : D} {v : Value} (h : Rd w O d v) : one1 v = true := by
  cases h with
  | v x hx => exact plain_one1 hx
  | nil => rfl
  | sl => rfl
def Keeps (w : World) (O : Nat → Prop) (w' : World) (O' : Nat → Prop) : Prop :=
  ∀ b, b < w.heap.size → ¬ O b → w'.heap[b]? = w.heap[b]? ∧ ¬ O' b
theorem Keeps.refl (w : World) (O : Nat → Prop) : Keeps w O w O := fun _ _ h => ⟨rfl, h⟩
theorem cell_lt {w : World} {a : Addr} {v : Value} (h : w.cell? a = some v) : a.block < w.heap.size := World.block_lt_of_cell? w a h
theorem Rd.keep {w w' : World} {O O' : Nat → Prop} (hk : Keeps w O w' O') {d : D} {v : Value} (h : Rd w O d v) : Rd w' O' d v := by
  induction h with
  | v x hx => exact .v x hx
  | nil nf wd hn => exact .nil nf wd hn
  | sl nf wd es b off cap f hn hl hw hc _ ih =>
    refine .sl nf wd es b off cap f hn hl hw (fun i j d hd => ?_) ih
    obtain ⟨hO, hcell⟩ := hc i j d hd
    obtain ⟨hb, hO'⟩ := hk b (cell_lt hcell) hO
    exact ⟨hO', (World.cell?_of_block (w := w) hb).trans hcell⟩
theorem Rd.flag {w : World} {O : Nat → Prop} {nf : Option Bool} {wd : Nat} {es : List (List D)} {v : Value} (h : Rd w O (.sl nf wd es) v) : Rd w O (.sl none wd es) v := by
  cases h with
  | nil => exact .nil _ _ (by simp)
  | sl _ _ _ b off cap f hn hl hw hc hr => exact .sl _ _ _ b off cap f (by simp) hl hw hc hr
inductive A where
  | d (x : D)
  | own (c : Nat)
  | ptr (c off : Nat)
  | eptr (c i off : Nat)
  | dptr (cells : List D)
  | fn (f : FuncId) (caps : List Nat)
  | junk
  deriving Inhabited
inductive AV where
  | s (a : A)
  | g (as : List A)
  | t (xs : List AV)
  | u
  deriving Inhabited
inductive Chunk where
  | box (cells : List A)
  | sl (nf : Option Bool) (wd : Nat) (es : List (List D))
  | fz (nf : Option Bool) (wd : Nat) (es : List (List D))
  | dead
  deriving Inhabited
def Chunk.isOwn : Chunk → Bool
  | .box _ | .sl .. => true
  | _ => false
structure Env where
  r : Nat → Option Nat
  X : Nat → Prop
instance : CoeFun Env (fun _ => Nat → Option Nat) := ⟨Env.r⟩
def OwnC (ρ : Env) (ch : List Chunk) (b : Nat) : Prop := ∃ (c : Nat) (k : Chunk), ch[c]? = some k ∧ k.isOwn = true ∧ ρ c = some b
def Own (ρ : Env) (ch : List Chunk) (b : Nat) : Prop := ρ.X b ∨ OwnC ρ ch b
def VA (w : World) (ρ : Env) (ch : List Chunk) : A → Value → Prop
  | .d x, v => Rd w (Own ρ ch) x v
  | .own c, v => match ch[c]? with
    | some (.sl _ wd es) => (ρ c = none ∧ v = .slice none 0 0) ∨
        ∃ (b cap : Nat) (cur : Array Value) (t : TypeId) (fr : Nat × Nat), ρ c = some b ∧ v = .slice (some ⟨b, 0, none⟩) es.length cap ∧ w.heap[b]? = some (.cells cur t fr) ∧ cur.size = cap * wd ∧ es.length ≤ cap
    | some (.fz nf wd es) => Rd w (Own ρ ch) (.sl nf wd es) v
    | some _ => one1 v = true
    | none => False
  | .ptr c off, v => c < ch.length ∧ ∃ b, ρ c = some b ∧ v = .pointer (some ⟨b, off, none⟩)
  | .eptr c i off, v => match ch[c]? with
    | some (.sl _ wd es) => i < es.length ∧ ∃ b, ρ c = some b ∧ v = .pointer (some ⟨b, i * wd + off, none⟩)
    | some _ => one1 v = true
    | none => False
  | .dptr cells, v => ∃ b off, v = .pointer (some ⟨b, off, none⟩) ∧ ∀ (j : Nat) (d : D), cells[j]? = some d → ¬ Own ρ ch b ∧ ∃ x, w.cell? ⟨b, off + j, none⟩ = some x ∧ Rd w (Own ρ ch) d x
  | .fn f caps, v => (∀ c ∈ caps, c < ch.length) ∧ ∃ bs : List Nat, bs.length = caps.length ∧ (∀ (i c : Nat), caps[i]? = some c → ρ c = bs[i]?) ∧
      v = .func (.func f) #[] (bs.map fun b => Value.pointer (some ⟨b, 0, none⟩)).toArray
  | .junk, v => one1 v = true
def VAV1 (w : World) (ρ : Env) (ch : List Chunk) : AV → Value → Prop
  | .s a, v => VA w ρ ch a v
  | .g as, v => ∃ vs : Array Value, v = .agg vs ∧ vs.size = as.length ∧ ∀ (j : Nat) (a : A), as[j]? = some a → ∃ x, vs[j]? = some x ∧ VA w ρ ch a x
  | .t _, _ => True
  | .u, _ => True
def VAV (w : World) (ρ : Env) (ch : List Chunk) : AV → Value → Prop
  | .t xs, v => ∃ vs : Array Value, v = .tuple vs ∧ vs.size = xs.length ∧ ∀ (j : Nat) (a : AV), xs[j]? = some a → ∃ x, vs[j]? = some x ∧ VAV1 w ρ ch a x
  | .s a, v => VA w ρ ch a v
  | .g as, v => VAV1 w ρ ch (.g as) v
  | .u, _ => True
theorem VA.oneCell {w : World} {ρ : Env} {ch : List Chunk} {a : A} {v : Value} (h : VA w ρ ch a v) : one1 v = true := by
  cases a with
  | d x => exact Rd.oneCell h
  | own c =>
    simp only [VA] at h
    split at h
    · rcases h with ⟨_, rfl⟩ | ⟨b, cap, cur, t, fr, _, rfl, _⟩ <;> rfl
    · exact Rd.oneCell h
    · exact h
    · exact h.elim
  | ptr c off => obtain ⟨_, b, _, rfl⟩ := h; rfl
  | eptr c i off =>
    simp only [VA] at h
    split at h
    · obtain ⟨_, b, _, rfl⟩ := h; rfl
    · exact h
    · exact h.elim
  | dptr cells => obtain ⟨b, off, rfl, _⟩ := h; rfl
  | fn f caps => obtain ⟨_, bs, _, _, rfl⟩ := h; rfl
  | junk => exact h
def Unfrozen (n : Nat) (fr : Nat × Nat) : Prop := fr.2 ≤ fr.1 ∨ n ≤ fr.1
def ChunkRep (w : World) (ρ : Env) (ch : List Chunk) (r : Option Nat) : Chunk → Prop
  | .box cells => ∃ (b : Nat) (cur : Array Value) (t : TypeId) (fr : Nat × Nat), r = some b ∧ w.heap[b]? = some (.cells cur t fr) ∧ Unfrozen cur.size fr ∧ cur.size = cells.length ∧
      ∀ (j : Nat) (a : A), cells[j]? = some a → ∃ x, cur[j]? = some x ∧ VA w ρ ch a x
  | .sl nf wd es => (∀ e ∈ es, e.length = wd) ∧ ((r = none ∧ es = [] ∧ nf ≠ some false) ∨
      ∃ (b : Nat) (cur : Array Value) (t : TypeId) (fr : Nat × Nat) (cap : Nat), r = some b ∧ nf ≠ some true ∧ w.heap[b]? = some (.cells cur t fr) ∧ Unfrozen cur.size fr ∧ cur.size = cap * wd ∧ es.length ≤ cap ∧
        ∀ i j d, getc es i j = some d → ∃ x, cur[i * wd + j]? = some x ∧ Rd w (Own ρ ch) d x)
  | _ => True
structure WOk (w0 : World) (M : Nat → Prop) (w : World) : Prop where
  os : w.os = w0.os
  tape : w.tape = w0.tape
  output : w.output = w0.output
  size : w0.heap.size ≤ w.heap.size
  block : ∀ b, b < w0.heap.size → ¬ M b → w.heap[b]? = w0.heap[b]?
theorem WOk.refl (w : World) (M : Nat → Prop) : WOk w M w := ⟨rfl, rfl, rfl, Nat.le_refl _, fun _ _ _ => rfl⟩
theorem WOk.trans {a b c : World} {M N : Nat → Prop} (h : WOk a M b) (k : WOk b N c) (hN : ∀ x, N x → a.heap.size ≤ x ∨ M x) : WOk a M c :=
  ⟨k.os.trans h.os, k.tape.trans h.tape, k.output.trans h.output, Nat.le_trans h.size k.size, fun x hx hm =>
    (k.block x (Nat.lt_of_lt_of_le hx h.size) (fun hn => (hN x hn).elim (fun h => by omega) hm)).trans (h.block x hx hm)⟩
structure Rep (w0 : World) (M : Nat → Prop) (ρ : Env) (ch : List Chunk) (w : World) : Prop where
  wok : WOk w0 M w
  chunk : ∀ (c : Nat) (k : Chunk), ch[c]? = some k → ChunkRep w ρ ch (ρ c) k
  inj : ∀ (c c' : Nat) (k k' : Chunk) (b : Nat), ch[c]? = some k → ch[c']? = some k' → k.isOwn = true → k'.isOwn = true → ρ c = some b → ρ c' = some b → c = c'
  new : ∀ (c : Nat) (k : Chunk) (b : Nat), ch[c]? = some k → k.isOwn = true → ρ c = some b → w0.heap.size ≤ b ∨ M b
  far : ∀ b, ρ.X b → b < w0.heap.size ∧ ¬ M b
def VF (w : World) (ρ : Env) (ch : List Chunk) (fr : List AV) (tmps : Array Value) : Prop :=
  fr.length = tmps.size ∧ ∀ (t : Nat) (av : AV), fr[t]? = some av → VAV w ρ ch av (tmps.getD t undef)
theorem Rep.lt {w0 w : World} {M : Nat → Prop} {ρ : Env} {ch : List Chunk} (h : Rep w0 M ρ ch w) {b : Nat} (hb : OwnC ρ ch b) : b < w.heap.size := by
  obtain ⟨c, k, hc, ho, hr⟩ := hb
  have := h.chunk c k hc
  cases k with
  | box cells =>
    obtain ⟨b', cur, t, fr, hb', hh, _⟩ := this
    rw [hr] at hb'; cases hb'
    exact (Array.getElem?_eq_some_iff.1 hh).1
  | sl nf wd es =>
    obtain ⟨_, h2⟩ := this
    rcases h2 with ⟨hn, _⟩ | ⟨b', cur, t, fr, cap, hb', _, hh, _⟩
    · rw [hr] at hn; cases hn
    · rw [hr] at hb'; cases hb'
      exact (Array.getElem?_eq_some_iff.1 hh).1
  | fz => simp [Chunk.isOwn] at ho
  | dead => simp [Chunk.isOwn] at ho
theorem Rep.notX {w0 w : World} {M : Nat → Prop} {ρ : Env} {ch : List Chunk} (h : Rep w0 M ρ ch w) {c : Nat} {k : Chunk} {b : Nat} (hc : ch[c]? = some k) (ho : k.isOwn = true) (hb : ρ c = some b) : ¬ ρ.X b := by
  intro hx
  obtain ⟨h1, h2⟩ := h.far b hx
  rcases h.new c k b hc ho hb with h3 | h3
  · omega
  · exact h2 h3
def Turns (w : World) (ρ : Env) (ch : List Chunk) (w' : World) (ρ' : Env) (ch' : List Chunk) (c : Nat) : Chunk → Chunk → Prop
  | _, .dead => True
  | .box _, .box _ => True
  | .fz nf wd es, .fz nf' wd' es' => nf = nf' ∧ wd = wd' ∧ es = es'
  | .sl _ wd es, .sl _ wd' es' => wd = wd' ∧ es.length = es'.length ∧ (∀ (b : Nat) (cur : Array Value) (t : TypeId) (fr : Nat × Nat), ρ c = some b → w.heap[b]? = some (.cells cur t fr) → ∃ (cur' : Array Value) (t' : TypeId) (fr' : Nat × Nat), w'.heap[b]? = some (.cells cur' t' fr') ∧ cur'.size = cur.size)
  | .sl .., .fz nf' wd' es' => ∀ v, VA w ρ ch (.own c) v → Rd w' (Own ρ' ch') (.sl nf' wd' es') v
  | .dead, .box _ => False
  | _, _ => False
structure Ext (w : World) (ρ : Env) (ch : List Chunk) (w' : World) (ρ' : Env) (ch' : List Chunk) : Prop where
  keeps : Keeps w (Own ρ ch) w' (Own ρ' ch')
  rho : ∀ c, c < ch.length → ρ' c = ρ c
  far : ρ'.X = ρ.X
  turns : ∀ (c : Nat) (k : Chunk), ch[c]? = some k → ∃ k', ch'[c]? = some k' ∧ Turns w ρ ch w' ρ' ch' c k k'
theorem Ext.le {w w' : World} {ρ ρ' : Env} {ch ch' : List Chunk} (h : Ext w ρ ch w' ρ' ch') : ch.length ≤ ch'.length := by
  rcases Nat.lt_or_ge ch'.length ch.length with hl | hl
  · obtain ⟨k', hk', _⟩ := h.turns ch'.length ch[ch'.length] (by simp [hl])
    simp at hk'
  · exact hl
theorem VA.ext {w w' : World} {ρ ρ' : Env} {ch ch' : List Chunk} (h : Ext w ρ ch w' ρ' ch') {a : A} {v : Value} (hv : VA w ρ ch a v) : VA w' ρ' ch' a v := by
  have hone := VA.oneCell hv
  cases a with
  | d x => exact Rd.keep h.keeps hv
  | own c =>
    cases hc : ch[c]? with
    | none => simp [VA, hc] at hv
    | some k =>
      obtain ⟨k', hk', ht⟩ := h.turns c k hc
      have hlt : c < ch.length := (List.getElem?_eq_some_iff.1 hc).1
      have hr := h.rho c hlt
      cases k' with
      | dead => simpa [VA, hk'] using hone
      | box cells => simpa [VA, hk'] using hone
      | fz nf wd es =>
        cases k with
        | fz nf0 wd0 es0 =>
          obtain ⟨rfl, rfl, rfl⟩ := ht
          simp only [VA, hc] at hv
          simpa only [VA, hk'] using Rd.keep h.keeps hv
        | sl nf0 wd0 es0 => simpa only [VA, hk'] using ht v hv
        | box => exact ht.elim
        | dead => exact ht.elim
      | sl nf wd es =>
        cases k with
        | sl nf0 wd0 es0 =>
          obtain ⟨rfl, hl, hh⟩ := ht
          simp only [VA, hc] at hv
          simp only [VA, hk']
          rcases hv with ⟨h1, h2⟩ | ⟨b, cap, cur, t, fr, h1, h2, h3, h4, h7⟩
          · exact .inl ⟨hr.trans h1, h2⟩
          · obtain ⟨cur', t', fr', h5, h6⟩ := hh b cur t fr h1 h3
            exact .inr ⟨b, cap, cur', t', fr', hr.trans h1, by rw [h2, hl], h5, h6.trans h4, hl ▸ h7⟩
        | fz => exact ht.elim
        | box => exact ht.elim
        | dead => exact ht.elim
  | ptr c off =>
    obtain ⟨hlt, b, hb, rfl⟩ := hv
    exact ⟨Nat.lt_of_lt_of_le hlt h.le, b, (h.rho c hlt).trans hb, rfl⟩
  | eptr c i off =>
    cases hc : ch[c]? with
    | none => simp [VA, hc] at hv
    | some k =>
      obtain ⟨k', hk', ht⟩ := h.turns c k hc
      have hlt : c < ch.length := (List.getElem?_eq_some_iff.1 hc).1
      have hr := h.rho c hlt
      cases k' with
      | dead => simpa [VA, hk'] using hone
      | box cells => simpa [VA, hk'] using hone
      | fz nf wd es => simpa [VA, hk'] using hone
      | sl nf wd es =>
        cases k with
        | sl nf0 wd0 es0 =>
          obtain ⟨rfl, hl, _⟩ := ht
          simp only [VA, hc] at hv
          simp only [VA, hk']
          obtain ⟨hi, b, hb, h2⟩ := hv
          exact ⟨hl ▸ hi, b, hr.trans hb, h2⟩
        | fz => exact ht.elim
        | box => exact ht.elim
        | dead => exact ht.elim
  | dptr cells =>
    obtain ⟨b, off, rfl, hc⟩ := hv
    refine ⟨b, off, rfl, fun j d hj => ?_⟩
    obtain ⟨hO, x, hx, hd⟩ := hc j d hj
    obtain ⟨hb, hO'⟩ := h.keeps b (cell_lt hx) hO
    exact ⟨hO', x, (World.cell?_of_block (w := w) hb).trans hx, Rd.keep h.keeps hd⟩
  | fn f caps =>
    obtain ⟨hlt, bs, hl, hb, rfl⟩ := hv
    refine ⟨fun c hc => Nat.lt_of_lt_of_le (hlt c hc) h.le, bs, hl, fun i c hi => ?_, rfl⟩
    rw [h.rho c (hlt c (List.mem_of_getElem? hi))]
    exact hb i c hi
  | junk => exact hv
theorem VAV1.ext {w w' : World} {ρ ρ' : Env} {ch ch' : List Chunk} (h : Ext w ρ ch w' ρ' ch') {a : AV} {v : Value} (hv : VAV1 w ρ ch a v) : VAV1 w' ρ' ch' a v := by
  cases a with
  | s a => exact VA.ext (a := a) h hv
  | g as =>
    obtain ⟨vs, rfl, hs, hj⟩ := hv
    exact ⟨vs, rfl, hs, fun j a ha => let ⟨x, hx, hxa⟩ := hj j a ha; ⟨x, hx, VA.ext h hxa⟩⟩
  | t xs => exact trivial
  | u => exact trivial
theorem VAV.ext {w w' : World} {ρ ρ' : Env} {ch ch' : List Chunk} (h : Ext w ρ ch w' ρ' ch') {a : AV} {v : Value} (hv : VAV w ρ ch a v) : VAV w' ρ' ch' a v := by
  cases a with
  | s a => exact VA.ext (a := a) h hv
  | g as => exact VAV1.ext (a := .g as) h hv
  | u => exact trivial
  | t xs =>
    obtain ⟨vs, rfl, hs, hj⟩ := hv
    exact ⟨vs, rfl, hs, fun j a ha => let ⟨x, hx, hxa⟩ := hj j a ha; ⟨x, hx, VAV1.ext h hxa⟩⟩
theorem VF.ext {w w' : World} {ρ ρ' : Env} {ch ch' : List Chunk} (h : Ext w ρ ch w' ρ' ch') {fr : List AV} {tmps : Array Value} (hv : VF w ρ ch fr tmps) : VF w' ρ' ch' fr tmps :=
  ⟨hv.1, fun t av ht => VAV.ext h (hv.2 t av ht)⟩
end Go.VC
end
section
namespace Go.VC
open Go
inductive TI where
  | one (z : D)
  | sl (wd : Nat) (by_ : Nat) (ag : Bool) (zs : List D)
  | st (fs : List (Nat × Nat × Bool)) (zs : List D)
def TI.zs : TI → List D
  | .one z => [z]
  | .sl wd .. => [.sl (some true) wd []]
  | .st _ zs => zs
def unflag : D → D
  | .sl _ wd es => .sl none wd es
  | x => x
def constAV : Value → AV
  | .slice none 0 0 => .s (.d (.sl (some true) 0 []))
  | .bool b => .s (.d (.v (.bool b)))
  | .int k n => .s (.d (.v (.int k n)))
  | .string s => .s (.d (.v (.string s)))
  | .nilFunc => .s (.d (.v .nilFunc))
  | .nilIface => .s (.d (.v .nilIface))
  | .pointer none => .s (.d (.v (.pointer none)))
  | _ => .u
def aeval (fr : List AV) : Operand → AV
  | .tmp t => fr.getD t .u
  | .const v => constAV v
  | .func f => .s (.fn f [])
  | .global _ => .u
structure FRes where
  obl : Prop
  val : AV
  fz : List Nat
  new : List Chunk
def freezeAll (ch : List Chunk) : List Nat → List Chunk
  | [] => ch
  | c :: cs => match ch.getD c .dead with
    | .sl nf wd es => freezeAll (ch.set c (.fz nf wd es)) cs
    | _ => freezeAll ch cs
def FRes.ch (r : FRes) (ch : List Chunk) : List Chunk := freezeAll ch r.fz ++ r.new
def pureR (x : AV) : Option FRes := some ⟨True, x, [], []⟩
def oblR (p : Prop) (x : AV) : Option FRes := some ⟨p, x, [], []⟩
def vI (k : IntKind) (n : Int) : AV := .s (.d (.v (.int k n)))
def vB (b : Bool) : AV := .s (.d (.v (.bool b)))
def str (l : List UInt8) : ByteArray := ⟨l.toArray⟩
def vS (l : List UInt8) : AV := .s (.d (.v (.string (str l))))
def InK : IntKind → Int → Prop
  | .i64, n => -9223372036854775808 ≤ n ∧ n ≤ 9223372036854775807
  | .u64, n => 0 ≤ n ∧ n ≤ 18446744073709551615
  | .u8, n => 0 ≤ n ∧ n ≤ 255
  | .i32, n => -2147483648 ≤ n ∧ n ≤ 2147483647
  | .u32, n => 0 ≤ n ∧ n ≤ 4294967295
  | .i16, n => -32768 ≤ n ∧ n ≤ 32767
  | .u16, n => 0 ≤ n ∧ n ≤ 65535
  | .i8, n => -128 ≤ n ∧ n ≤ 127
def bitop (op : BinOp) (k : IntKind) (x y : Int) : Int :=
  match op with
  | .and => k.wrap (BitVec.ofInt k.bits x &&& BitVec.ofInt k.bits y).toNat
  | .or => k.wrap (BitVec.ofInt k.bits x ||| BitVec.ofInt k.bits y).toNat
  | .xor => k.wrap (BitVec.ofInt k.bits x ^^^ BitVec.ofInt k.bits y).toNat
  | _ => k.wrap (BitVec.ofInt k.bits x &&& ~~~BitVec.ofInt k.bits y).toNat
def ashr (x y : Int) : Int := x / 2 ^ min y.toNat 64
def intBin (wr : Bool) (op : BinOp) (k : IntKind) (x y : Int) : Option FRes :=
  match op with
  | .add => match wr with | true => pureR (vI k (k.wrap (x + y))) | false => oblR (InK k (x + y)) (vI k (x + y))
  | .sub => match wr with | true => pureR (vI k (k.wrap (x - y))) | false => oblR (InK k (x - y)) (vI k (x - y))
  | .mul => match wr with | true => pureR (vI k (k.wrap (x * y))) | false => oblR (InK k (x * y)) (vI k (x * y))
  | .quo => oblR (y ≠ 0 ∧ InK k (x.tdiv y)) (vI k (x.tdiv y))
  | .rem => oblR (y ≠ 0) (vI k (x.tmod y))
  | .and => pureR (vI k (bitop .and k x y))
  | .or => pureR (vI k (bitop .or k x y))
  | .xor => pureR (vI k (bitop .xor k x y))
  | .andNot => pureR (vI k (bitop .andNot k x y))
  | .eql => pureR (vB (decide (x = y)))
  | .neq => pureR (vB (!decide (x = y)))
  | .lss => pureR (vB (decide (x < y)))
  | .leq => pureR (vB (decide (x ≤ y)))
  | .gtr => pureR (vB (decide (y < x)))
  | .geq => pureR (vB (decide (y ≤ x)))
  | _ => none
def strBin (op : BinOp) (x y : ByteArray) : Option FRes :=
  match op with
  | .add => oblR (x.data.toList.length + y.data.toList.length ≤ 4611686018427387904) (vS (x.data.toList ++ y.data.toList))
  | .eql => pureR (vB (decide (x.data.toList = y.data.toList)))
  | .neq => pureR (vB (!decide (x.data.toList = y.data.toList)))
  | _ => none
def abin (wr : Bool) (op : BinOp) (x y : AV) : Option FRes :=
  match op, x, y with
  | .shl, .s (.d (.v (.int k a))), .s (.d (.v (.int _ b))) =>
    match wr with
    | true => oblR (0 ≤ b) (vI k (k.wrap (a * 2 ^ min b.toNat k.bits)))
    | false => oblR (0 ≤ b ∧ b < k.bits ∧ InK k (a * 2 ^ b.toNat)) (vI k (a * 2 ^ b.toNat))
  | .shr, .s (.d (.v (.int k a))), .s (.d (.v (.int _ b))) =>
    match k.bits with
    | 64 => oblR (0 ≤ b) (vI k (ashr a b))
    | _ => oblR (0 ≤ b ∧ b < k.bits) (vI k (ashr a b))
  | op, .s (.d (.v (.int k a))), .s (.d (.v (.int k' b))) => if k = k' then intBin wr op k a b else none
  | op, .s (.d (.v (.string a))), .s (.d (.v (.string b))) => strBin op a b
  | .eql, .s (.d (.v (.bool a))), .s (.d (.v (.bool b))) => pureR (vB (a == b))
  | .neq, .s (.d (.v (.bool a))), .s (.d (.v (.bool b))) => pureR (vB (!(a == b)))
  | .eql, .s (.d (.sl (some true) _ _)), .s (.d (.sl (some true) _ _)) => pureR (vB true)
  | .eql, .s (.d (.sl (some false) _ _)), .s (.d (.sl (some true) _ _)) => pureR (vB false)
  | .neq, .s (.d (.sl (some true) _ _)), .s (.d (.sl (some true) _ _)) => pureR (vB false)
  | .neq, .s (.d (.sl (some false) _ _)), .s (.d (.sl (some true) _ _)) => pureR (vB true)
  | _, _, _ => none
def aun (wr : Bool) (op : UnOp) (x : AV) : Option FRes :=
  match op, x with
  | .neg, .s (.d (.v (.int k n))) => match wr with | true => pureR (vI k (k.wrap (0 - n))) | false => oblR (InK k (0 - n)) (vI k (0 - n))
  | .not, .s (.d (.v (.bool b))) => pureR (vB (!b))
  | _, _ => none
def toD (ch : List Chunk) : A → Option (D × List Nat)
  | .d x => some (unflag x, [])
  | .own c => match ch.getD c .dead with
    | .sl _ wd es => some (.sl none wd es, [c])
    | .fz _ wd es => some (.sl none wd es, [])
    | _ => none
  | _ => none
def toDs (ch : List Chunk) : List A → Option (List D × List Nat)
  | [] => some ([], [])
  | a :: as => match toD ch a with
    | some (d, cs) => match toDs ch as with
      | some (ds, cs') => some (d :: ds, cs ++ cs')
      | none => none
    | none => none
def avDs (ch : List Chunk) : AV → Option (List D × List Nat)
  | .s a => toDs ch [a]
  | .g as => toDs ch as
  | _ => none
def cell (es : List (List D)) (i j : Nat) (z : D) : D := (getc es i j).getD z
def setRange (cells : List A) (off : Nat) : List A → List A
  | [] => cells
  | a :: as => setRange (cells.set off a) (off + 1) as
def avAs : AV → Option (List A)
  | .s a => some [a]
  | .g as => some as
  | _ => none
def fillA (fs : List (Nat × Nat × Bool)) (cells : List A) (fr : List AV) : List (Nat × Operand) → Option (List A)
  | [] => some cells
  | (i, x) :: rest => match fs[i]? with
    | some (off, n, _) => match avAs (aeval fr x) with
      | some as => if as.length = n then fillA fs (setRange cells off as) fr rest else none
      | none => none
    | none => none
def fillD (ch : List Chunk) (wd : Nat) (es : List (List D)) (fz : List Nat) (fr : List AV) : List (Nat × Operand) → Option (List (List D) × List Nat)
  | [] => some (es, fz)
  | (i, x) :: rest => match avDs ch (aeval fr x) with
    | some (ds, cs) => if ds.length = wd ∧ i < es.length then fillD ch wd (es.set i ds) (fz ++ cs) fr rest else none
    | none => none
def takeT (ti : TI) (cells : List A) (off : Nat) : Option AV :=
  match ti with
  | .st _ zs => if off + zs.length ≤ cells.length then some (.g ((cells.drop off).take zs.length)) else none
  | _ => match cells.drop off with
    | a :: _ => some (.s a)
    | [] => none
def rowT (es : List (List D)) (i : Nat) (zs : List D) (j : Nat) : List D :=
  match zs with
  | [] => []
  | z :: zs => cell es i j (unflag z) :: rowT es i zs (j + 1)
def aload (ch : List Chunk) (ti : TI) : AV → Option FRes
  | .s (.ptr c off) => match ch.getD c .dead with
    | .box cells => match takeT ti cells off with
      | some v => pureR v
      | none => none
    | _ => none
  | .s (.eptr c i off) => match ch.getD c .dead with
    | .sl _ wd es => if off + ti.zs.length ≤ wd then match ti with
        | .st _ zs => pureR (.g ((rowT es i zs off).map .d))
        | .one z => pureR (.s (.d (cell es i off (unflag z))))
        | .sl w .. => pureR (.s (.d (cell es i off (.sl none w []))))
      else none
    | _ => none
  | .s (.dptr cells) => match takeT ti (cells.map .d) 0 with
    | some v => pureR v
    | none => none
  | _ => none
def bytesOf (es : List (List D)) : List UInt8 := es.map fun e => match e with
  | [.v (.int _ n)] => UInt8.ofNat n.toNat
  | _ => 0
def allBytes (es : List (List D)) : Prop := ∀ e ∈ es, ∃ n : Int, e = [.v (.int .u8 n)]
def encB (l : List UInt8) : List (List D) := l.map fun b => [.v (.int .u8 b.toNat)]
def aconvert (ch : List Chunk) (s d : Option TI) (x : AV) : Option FRes :=
  match s, d, x with
  | some _, some (.one (.v (.int k _))), .s (.d (.v (.int _ n))) => pureR (vI k (k.wrap n))
  | some (.sl 1 _ _ [.v (.int .u8 _)]), some (.one (.v (.string _))), .s (.d (.sl _ 1 es)) => oblR (allBytes es) (vS (bytesOf es))
  | some (.sl 1 _ _ [.v (.int .u8 _)]), some (.one (.v (.string _))), .s (.own c) => match ch.getD c .dead with
    | .sl _ 1 es => oblR (allBytes es) (vS (bytesOf es))
    | _ => none
  | some (.one (.v (.string _))), some (.sl 1 _ _ [.v (.int .u8 _)]), .s (.d (.v (.string b))) =>
    some ⟨True, .s (.own ch.length), [], [.sl (some false) 1 (encB b.data.toList)]⟩
  | _, _, _ => none
def capsOf (fr : List AV) : List Operand → Option (List Nat)
  | [] => some []
  | x :: xs => match aeval fr x with
    | .s (.ptr c 0) => match capsOf fr xs with
      | some cs => some (c :: cs)
      | none => none
    | _ => none
def intOfAV : AV → Option Int
  | .s (.d (.v (.int _ n))) => some n
  | _ => none
def optInt (fr : List AV) (dflt : Int) : Option Operand → Option Int
  | none => some dflt
  | some x => intOfAV (aeval fr x)
def sliceD (nf : Option Bool) (es : List (List D)) (wd : Nat) (lo hi : Int) : AV := .s (.d (.sl nf wd ((es.take hi.toNat).drop lo.toNat)))
def aslice (ch : List Chunk) (fr : List AV) (w : Nat) (x : AV) (lo hi : Option Operand) : Option FRes :=
  match x with
  | .s (.d (.v (.string b))) => match optInt fr 0 lo with
    | some l => match optInt fr b.data.toList.length hi with
      | some h => oblR (0 ≤ l ∧ l ≤ h ∧ h ≤ b.data.toList.length) (vS ((b.data.toList.take h.toNat).drop l.toNat))
      | none => none
    | none => none
  | .s (.d (.sl _ wd es)) => if w = wd then match optInt fr 0 lo with
      | some l => match optInt fr es.length hi with
        | some h => oblR (0 ≤ l ∧ l ≤ h ∧ h ≤ es.length) (sliceD none es wd l h)
        | none => none
      | none => none
    else none
  | .s (.own c) => match ch.getD c .dead with
    | .sl _ wd es => if w = wd then match optInt fr 0 lo with
        | some l => match optInt fr es.length hi with
          | some h => some ⟨0 ≤ l ∧ l ≤ h ∧ h ≤ es.length, sliceD none es wd l h, [c], []⟩
          | none => none
        | none => none
      else none
    | _ => none
  | _ => none
def afieldAddr (ch : List Chunk) (ti : Option TI) (x : AV) (f : Nat) : Option FRes :=
  match ti with
  | some (.st fs _) => match fs[f]? with
    | some (o, _, _) => match x with
      | .s (.ptr c off) => pureR (.s (.ptr c (off + o)))
      | .s (.eptr c i off) => match ch.getD c .dead with
        | .sl _ _ _ => pureR (.s (.eptr c i (off + o)))
        | _ => none
      | .s (.dptr cells) => pureR (.s (.dptr (cells.drop o)))
      | _ => none
    | none => none
  | _ => none
def afield (ti : Option TI) (x : AV) (f : Nat) : Option FRes :=
  match ti with
  | some (.st fs _) => match fs[f]? with
    | some (o, n, ag) => match x with
      | .g as => match ag with
        | true => if o + n ≤ as.length then pureR (.g ((as.drop o).take n)) else none
        | false => match as.drop o with
          | a :: _ => pureR (.s a)
          | [] => none
      | _ => none
    | none => none
  | _ => none
def aindexAddr (ch : List Chunk) (ti : Option TI) (x i : AV) : Option FRes :=
  match ti, i with
  | some (.sl wd _ _ zs), .s (.d (.v (.int _ n))) => match x with
    | .s (.own c) => match ch.getD c .dead with
      | .sl _ wd' es => if wd = wd' then oblR (0 ≤ n ∧ n < es.length) (.s (.eptr c n.toNat 0)) else none
      | .fz _ wd' es => if wd = wd' then oblR (0 ≤ n ∧ n < es.length) (.s (.dptr (rowT es n.toNat zs 0))) else none
      | _ => none
    | .s (.d (.sl _ wd' es)) => if wd = wd' then oblR (0 ≤ n ∧ n < es.length) (.s (.dptr (rowT es n.toNat zs 0))) else none
    | _ => none
  | _, _ => none
def aindex (x i : AV) : Option FRes :=
  match x, i with
  | .s (.d (.v (.string b))), .s (.d (.v (.int _ n))) => oblR (0 ≤ n ∧ n < b.data.toList.length) (vI .u8 (b.data.toList.getD n.toNat 0).toNat)
  | _, _ => none
def alen (ch : List Chunk) : AV → Option FRes
  | .s (.d (.v (.string b))) => pureR (vI .i64 b.data.toList.length)
  | .s (.d (.sl _ _ es)) => pureR (vI .i64 es.length)
  | .s (.own c) => match ch.getD c .dead with
    | .sl _ _ es => pureR (vI .i64 es.length)
    | .fz _ _ es => pureR (vI .i64 es.length)
    | _ => none
  | _ => none
def amax (mx : Bool) : List AV → Option AV
  | [x] => some x
  | [.s (.d (.v (.int k a))), .s (.d (.v (.int _ b)))] => some (vI k (match mx with | true => max a b | false => min a b))
  | [.s (.d (.v (.int k a))), .s (.d (.v (.int _ b))), .s (.d (.v (.int _ c)))] => some (vI k (match mx with | true => max (max a b) c | false => min (min a b) c))
  | _ => none
def newSl (ch : List Chunk) (p : Prop) (fz : List Nat) (wd : Nat) (es : List (List D)) : Option FRes := some ⟨p, .s (.own ch.length), fz, [.sl (some false) wd es]⟩
def isStr : Option TI → Bool
  | some (.one (.v (.string _))) => true
  | _ => false
def isBool : Option TI → Bool
  | some (.one (.v (.bool _))) => true
  | _ => false
def isSl : Option TI → Bool
  | some (.sl ..) => true
  | _ => false
def binTT (ti : Option TI) (op : BinOp) (x : AV) : Bool :=
  match x with
  | .s (.d (.v (.bool _))) => isBool ti
  | .s (.d (.sl ..)) => isSl ti
  | _ => match op with | _ => true
def fstep (tt : TypeId → Option TI) (wr : Bool) (fr : List AV) (ch : List Chunk) (o : Op) : Option FRes :=
  match o with
  | .move x => pureR (aeval fr x)
  | .assign x => pureR (aeval fr x)
  | .pick c a b => match aeval fr c with
    | .s (.d (.v (.bool x))) => pureR (bif x then aeval fr a else aeval fr b)
    | _ => none
  | .alloc t => match tt t with
    | some ti => some ⟨True, .s (.ptr ch.length 0), [], [.box (ti.zs.map .d)]⟩
    | none => none
  | .box _ x => match avAs (aeval fr x) with
    | some as => some ⟨True, .s (.ptr ch.length 0), [], [.box as]⟩
    | none => none
  | .build t parts => match tt t with
    | some (.st fs zs) => match fillA fs (zs.map .d) fr parts.toList with
      | some cells => pureR (.g cells)
      | none => none
    | _ => none
  | .buildSlice t n parts => match tt t with
    | some (.sl wd _ _ zs) => match fillD ch wd (List.replicate n (zs.map unflag)) [] fr parts.toList with
      | some (es, fz) => newSl ch (n * wd ≤ 16777216) fz wd es
      | none => none
    | _ => none
  | .load t x => match tt t with
    | some ti => aload ch ti (aeval fr x)
    | none => none
  | .nilCheck x => match aeval fr x with
    | .s (.ptr c off) => pureR (.s (.ptr c off))
    | .s (.eptr c i off) => match ch.getD c .dead with
      | .sl _ _ _ => pureR (.s (.eptr c i off))
      | _ => none
    | .s (.dptr cells) => pureR (.s (.dptr cells))
    | _ => none
  | .binOp op t x y _ => match binTT (tt t) op (aeval fr x) with
    | true => abin wr op (aeval fr x) (aeval fr y)
    | false => none
  | .unOp op _ x => aun wr op (aeval fr x)
  | .convert s d x => aconvert ch (tt s) (tt d) (aeval fr x)
  | .makeFunc (.func f) first caps => match first.toList, capsOf fr caps.toList with
    | [], some cs => pureR (.s (.fn f cs))
    | _, _ => none
  | .makeSlice t l c => match tt t with
    | some (.sl wd by_ _ zs) => match intOfAV (aeval fr l), intOfAV (aeval fr c) with
      | some n, some m => newSl ch (0 ≤ n ∧ n ≤ m ∧ by_ * m ≤ 140737488355328 ∧ m ≤ 140737488355328) [] wd (List.replicate n.toNat (zs.map unflag))
      | _, _ => none
    | _ => none
  | .slice t x lo hi none => match aeval fr x with
    | .s (.d (.v (.string b))) => match isStr (tt t) with
      | true => aslice ch fr 0 (.s (.d (.v (.string b)))) lo hi
      | false => none
    | y => match tt t with
      | some (.sl w _ _ _) => aslice ch fr w y lo hi
      | _ => none
  | .fieldAddr t x f => afieldAddr ch (tt t) (aeval fr x) f
  | .field t x f => afield (tt t) (aeval fr x) f
  | .indexAddr t x i => aindexAddr ch (tt t) (aeval fr x) (aeval fr i)
  | .index t x i => match isStr (tt t) with
    | true => aindex (aeval fr x) (aeval fr i)
    | false => none
  | .extract x i => match aeval fr x with
    | .t xs => match xs[i]? with
      | some (.s y) => pureR (.s y)
      | some (.g y) => pureR (.g y)
      | _ => none
    | _ => none
  | .call c => match c.callee with
    | .builtin .len => match c.args.toList, c.argTypes.toList with
      | [x], [t] => match aeval fr x with
        | .s (.d (.v (.string b))) => match isStr (tt t) with
          | true => alen ch (.s (.d (.v (.string b))))
          | false => none
        | y => match isSl (tt t) with
          | true => alen ch y
          | false => none
      | _, _ => none
    | .builtin .max => match amax true (c.args.toList.map (aeval fr)) with
      | some v => pureR v
      | none => none
    | .builtin .min => match amax false (c.args.toList.map (aeval fr)) with
      | some v => pureR v
      | none => none
    | _ => none
  | _ => none
end Go.VC
end
section
namespace Go.VC
open Go
variable {P : Program} {w0 w w' : World} {M : Nat → Prop} {ρ ρ' : Env} {ch ch' : List Chunk}
theorem Ext.refl (w : World) (ρ : Env) (ch : List Chunk) : Ext w ρ ch w ρ ch :=
  ⟨Keeps.refl _ _, fun _ _ => rfl, rfl, fun c k hk => ⟨k, hk, by cases k <;> simp [Turns]; intro b cur t x y _ h; exact ⟨cur, ⟨t, x, y, h⟩, rfl⟩⟩⟩
theorem ChunkRep.ext (h : Ext w ρ ch w' ρ' ch') {r : Option Nat} {k : Chunk} (hb : k.isOwn = true → ∀ b, r = some b → w'.heap[b]? = w.heap[b]?) (hk : ChunkRep w ρ ch r k) : ChunkRep w' ρ' ch' r k := by
  cases k with
  | box cells =>
    obtain ⟨b, cur, t, fr, rfl, hh, hu, hs, hc⟩ := hk
    exact ⟨b, cur, t, fr, rfl, (hb rfl b rfl).trans hh, hu, hs, fun j a hj => let ⟨x, hx, ha⟩ := hc j a hj; ⟨x, hx, VA.ext h ha⟩⟩
  | sl nf wd es =>
    obtain ⟨hw, h2⟩ := hk
    refine ⟨hw, ?_⟩
    rcases h2 with h2 | ⟨b, cur, t, fr, cap, rfl, hn, hh, hu, hs, hl, hc⟩
    · exact .inl h2
    · exact .inr ⟨b, cur, t, fr, cap, rfl, hn, (hb rfl b rfl).trans hh, hu, hs, hl, fun i j d hd => let ⟨x, hx, ha⟩ := hc i j d hd; ⟨x, hx, Rd.keep h.keeps ha⟩⟩
  | fz => trivial
  | dead => trivial
theorem own_of_fz {c : Nat} {nf : Option Bool} {wd : Nat} {es : List (List D)} {b : Nat} (h : OwnC ρ (ch.set c (.fz nf wd es)) b) : ∃ c' k, c' ≠ c ∧ ch[c']? = some k ∧ k.isOwn = true ∧ ρ c' = some b := by
  obtain ⟨c', k, hk, ho, hr⟩ := h
  by_cases hc : c' = c
  · subst hc
    have : k = .fz nf wd es := by
      rw [List.getElem?_set] at hk
      simp only [if_true] at hk
      split at hk <;> simp_all
    subst this; simp [Chunk.isOwn] at ho
  · rw [List.getElem?_set, if_neg (fun h => hc h.symm)] at hk
    exact ⟨c', k, hc, hk, ho, hr⟩
theorem freeze_rd (hR : Rep w0 M ρ ch w) {c : Nat} {nf : Option Bool} {wd : Nat} {es : List (List D)} (hc : ch[c]? = some (.sl nf wd es)) {v : Value} (hv : VA w ρ ch (.own c) v)
    (hK : Keeps w (Own ρ ch) w (Own ρ (ch.set c (.fz nf wd es)))) : Rd w (Own ρ (ch.set c (.fz nf wd es))) (.sl nf wd es) v := by
  have hrep := hR.chunk c _ hc
  obtain ⟨hw, h2⟩ := hrep
  simp only [VA, hc] at hv
  rcases h2 with ⟨hn, rfl, hnf⟩ | ⟨b, cur, t, fr, cap, hb, hnf, hh, hu, hs, hl, hcell⟩
  · rcases hv with ⟨_, rfl⟩ | ⟨b, cap, cur, t, fr, hb, _⟩
    · exact .nil _ _ hnf
    · rw [hn] at hb; cases hb
  · rcases hv with ⟨hn, _⟩ | ⟨b', cap', cur', t', fr', hb', rfl, hh', hs', hl'⟩
    · rw [hn] at hb; cases hb
    · rw [hb] at hb'; cases hb'
      rw [hh] at hh'; cases hh'
      have hbO : ¬ Own ρ (ch.set c (.fz nf wd es)) b := by
        rintro (h | h)
        · exact hR.notX hc rfl hb h
        · obtain ⟨c', k, hne, hk, ho, hr⟩ := own_of_fz h
          exact hne (hR.inj c' c k _ b hk hc ho rfl hr hb)
      refine .sl nf wd es b 0 cap' (fun i j => (cur[i * wd + j]?).getD undef) hnf hl' hw (fun i j d hd => ⟨hbO, ?_⟩) (fun i j d hd => ?_)
      · obtain ⟨x, hx, _⟩ := hcell i j d hd
        simp [World.cell?, hh, hx]
      · obtain ⟨x, hx, hd'⟩ := hcell i j d hd
        rw [hx]
        exact Rd.keep hK hd'
theorem keeps_freeze {c : Nat} {nf : Option Bool} {wd : Nat} {es : List (List D)} : Keeps w (Own ρ ch) w (Own ρ (ch.set c (.fz nf wd es))) := by
  intro b _ hO
  refine ⟨rfl, fun h => hO ?_⟩
  rcases h with h | h
  · exact .inl h
  · obtain ⟨c', k, _, hk, ho, hr⟩ := own_of_fz h
    exact .inr ⟨c', k, hk, ho, hr⟩
theorem freeze_ext (hR : Rep w0 M ρ ch w) {c : Nat} {nf : Option Bool} {wd : Nat} {es : List (List D)} (hc : ch[c]? = some (.sl nf wd es)) :
    Ext w ρ ch w ρ (ch.set c (.fz nf wd es)) := by
  refine ⟨keeps_freeze, fun _ _ => rfl, rfl, fun c' k hk => ?_⟩
  by_cases h : c' = c
  · subst h
    rw [hc] at hk; cases hk
    refine ⟨.fz nf wd es, ?_, fun v hv => freeze_rd hR hc hv keeps_freeze⟩
    rw [List.getElem?_set, if_pos rfl, if_pos (List.getElem?_eq_some_iff.1 hc).1]
  · refine ⟨k, by rw [List.getElem?_set, if_neg (fun e => h e.symm)]; exact hk, ?_⟩
    exact ((Ext.refl w ρ ch).turns c' k hk).elim fun k' hk' => by
      obtain ⟨h1, h2⟩ := hk'
      rw [hk] at h1; cases h1
      cases k with
      | sl a b e => simpa [Turns] using h2
      | fz a b e => simp [Turns]
      | box cs => simp [Turns]
      | dead => simp [Turns]
theorem set_get_own {c : Nat} {x : Chunk} (hx : x.isOwn = false) {c' : Nat} {k : Chunk} (hk : (ch.set c x)[c']? = some k) (ho : k.isOwn = true) : ch[c']? = some k := by
  rw [List.getElem?_set] at hk
  split at hk
  · split at hk
    · cases hk; simp [hx] at ho
    · cases hk
  · exact hk
theorem freeze_rep (hR : Rep w0 M ρ ch w) {c : Nat} {nf : Option Bool} {wd : Nat} {es : List (List D)} (hc : ch[c]? = some (.sl nf wd es)) :
    Rep w0 M ρ (ch.set c (.fz nf wd es)) w := by
  have hE := freeze_ext hR hc
  refine ⟨hR.wok, fun c' k hk => ?_, fun a b k k' x ha hb hoa hob => hR.inj a b k k' x (set_get_own rfl ha hoa) (set_get_own rfl hb hob) hoa hob, fun a k x ha hoa => hR.new a k x (set_get_own rfl ha hoa) hoa, hR.far⟩
  by_cases h : c' = c
  · subst h
    have : k = .fz nf wd es := by
      rw [List.getElem?_set] at hk
      simp only [if_true] at hk
      split at hk <;> simp_all
    subst this; trivial
  · rw [List.getElem?_set, if_neg (fun e => h e.symm)] at hk
    exact ChunkRep.ext hE (fun _ _ _ => rfl) (hR.chunk c' k hk)
theorem Ext.trans {w'' : World} {ρ'' : Env} {ch'' : List Chunk} (h : Ext w ρ ch w' ρ' ch') (k : Ext w' ρ' ch' w'' ρ'' ch'') (hsz : w.heap.size ≤ w'.heap.size) : Ext w ρ ch w'' ρ'' ch'' := by
  refine ⟨fun b hb hO => ?_, fun c hc => (k.rho c (Nat.lt_of_lt_of_le hc h.le)).trans (h.rho c hc), k.far.trans h.far, fun c x hx => ?_⟩
  · obtain ⟨h1, h2⟩ := h.keeps b hb hO
    obtain ⟨h3, h4⟩ := k.keeps b (Nat.lt_of_lt_of_le hb hsz) h2
    exact ⟨h3.trans h1, h4⟩
  · obtain ⟨y, hy, hxy⟩ := h.turns c x hx
    obtain ⟨z, hz, hyz⟩ := k.turns c y hy
    refine ⟨z, hz, ?_⟩
    have hlt : c < ch.length := (List.getElem?_eq_some_iff.1 hx).1
    cases z with
    | dead => cases x <;> simp [Turns]
    | box cs => cases y <;> simp only [Turns] at hyz <;> cases x <;> simp only [Turns] at hxy ⊢
    | fz n d e =>
      cases y with
      | box cs => exact hyz.elim
      | dead => exact hyz.elim
      | fz n1 d1 e1 =>
        obtain ⟨rfl, rfl, rfl⟩ := hyz
        cases x with
        | box cs => exact hxy.elim
        | dead => exact hxy.elim
        | fz n2 d2 e2 => exact hxy
        | sl n2 d2 e2 => exact fun v hv => Rd.keep k.keeps (hxy v hv)
      | sl n1 d1 e1 =>
        cases x with
        | box cs => exact hxy.elim
        | dead => exact hxy.elim
        | fz n2 d2 e2 => exact hxy.elim
        | sl n2 d2 e2 => exact fun v hv => hyz v (VA.ext h hv)
    | sl n d e =>
      cases y with
      | box cs => exact hyz.elim
      | dead => exact hyz.elim
      | fz n1 d1 e1 => exact hyz.elim
      | sl n1 d1 e1 =>
        cases x with
        | box cs => exact hxy.elim
        | dead => exact hxy.elim
        | fz n2 d2 e2 => exact hxy.elim
        | sl n2 d2 e2 =>
          obtain ⟨rfl, hl1, hh1⟩ := hxy
          obtain ⟨rfl, hl2, hh2⟩ := hyz
          refine ⟨rfl, hl1.trans hl2, fun b cur t fr hb hh => ?_⟩
          obtain ⟨cur1, t1, fr1, h5, h6⟩ := hh1 b cur t fr hb hh
          obtain ⟨cur2, t2, fr2, h7, h8⟩ := hh2 b cur1 t1 fr1 ((h.rho c hlt).trans hb) h5
          exact ⟨cur2, t2, fr2, h7, h8.trans h6⟩
theorem freezeAll_rep (cs : List Nat) : ∀ {ch : List Chunk}, Rep w0 M ρ ch w → Rep w0 M ρ (freezeAll ch cs) w ∧ Ext w ρ ch w ρ (freezeAll ch cs) := by
  induction cs with
  | nil => exact fun h => ⟨h, Ext.refl _ _ _⟩
  | cons c cs ih =>
    intro ch h
    simp only [freezeAll]
    split
    · rename_i nf wd es hd
      have hc : ch[c]? = some (.sl nf wd es) := by
        rw [List.getD_eq_getElem?_getD] at hd
        cases hx : ch[c]? with
        | none => simp [hx] at hd
        | some k => simpa [hx] using hd
      obtain ⟨h1, h2⟩ := ih (freeze_rep h hc)
      exact ⟨h1, (freeze_ext h hc).trans h2 (Nat.le_refl _)⟩
    · exact ih h
theorem freezeAll_length (cs : List Nat) : ∀ (ch : List Chunk), (freezeAll ch cs).length = ch.length := by
  induction cs with
  | nil => exact fun _ => rfl
  | cons c cs ih =>
    intro ch
    simp only [freezeAll]
    split
    · rw [ih]; simp
    · exact ih ch
end Go.VC
end
section
namespace Go.VC
open Go
variable {P : Program} {w0 w w' : World} {M : Nat → Prop} {ρ ρ' : Env} {ch ch' : List Chunk}
def upd (ρ : Env) (c : Nat) (r : Option Nat) : Env := ⟨fun x => if x = c then r else ρ x, ρ.X⟩
theorem upd_get (ρ : Env) (c : Nat) (r : Option Nat) (x : Nat) : upd ρ c r x = if x = c then r else ρ x := rfl
theorem getElem?_push {α : Type} {l : List α} {x : α} {i : Nat} {y : α} (h : (l ++ [x])[i]? = some y) : (i < l.length ∧ l[i]? = some y) ∨ (i = l.length ∧ y = x) := by
  rcases Nat.lt_trichotomy i l.length with hl | hl | hl
  · rw [List.getElem?_append_left hl] at h; exact .inl ⟨hl, h⟩
  · subst hl; simp at h; exact .inr ⟨rfl, h.symm⟩
  · rw [List.getElem?_append_right (by omega)] at h
    have : i - l.length ≠ 0 := by omega
    cases hi : i - l.length with
    | zero => omega
    | succ n => simp [hi] at h
theorem getElem?_push_left {α : Type} {l : List α} {x : α} {i : Nat} {y : α} (h : l[i]? = some y) : (l ++ [x])[i]? = some y := by
  rw [List.getElem?_append_left (List.getElem?_eq_some_iff.1 h).1]; exact h
theorem own_push {k : Chunk} {r : Option Nat} {b : Nat} (h : OwnC (upd ρ ch.length r) (ch ++ [k]) b) : OwnC ρ ch b ∨ (k.isOwn = true ∧ r = some b) := by
  obtain ⟨c, k', hk, ho, hr⟩ := h
  rcases getElem?_push hk with ⟨hl, hk⟩ | ⟨rfl, rfl⟩
  · rw [upd_get, if_neg (by omega)] at hr
    exact .inl ⟨c, k', hk, ho, hr⟩
  · rw [upd_get, if_pos rfl] at hr
    exact .inr ⟨ho, hr⟩
theorem push_ext (hg : WOk w (fun _ => False) w') {k : Chunk} {r : Option Nat} (hr : ∀ b, r = some b → w.heap.size ≤ b) :
    Ext w ρ ch w' (upd ρ ch.length r) (ch ++ [k]) := by
  refine ⟨fun b hb hO => ⟨hg.block b hb id, fun h => ?_⟩, fun c hc => by rw [upd_get, if_neg (by omega)], rfl, fun c x hx => ⟨x, getElem?_push_left hx, ?_⟩⟩
  · rcases h with h | h
    · exact hO (.inl h)
    · rcases own_push h with h | ⟨_, h⟩
      · exact hO (.inr h)
      · have := hr b h; omega
  · cases x with
    | box cs => simp [Turns]
    | dead => simp [Turns]
    | fz n d e => simp [Turns]
    | sl n d e =>
      refine ⟨rfl, rfl, fun b cur t fr _ hh => ⟨cur, t, fr, ?_, rfl⟩⟩
      exact (hg.block b (Array.getElem?_eq_some_iff.1 hh).1 id).trans hh
theorem push_rep (hR : Rep w0 M ρ ch w) (hg : WOk w (fun _ => False) w') {k : Chunk} {r : Option Nat} (hr : ∀ b, r = some b → w.heap.size ≤ b)
    (hk : ChunkRep w' (upd ρ ch.length r) (ch ++ [k]) r k) : Rep w0 M (upd ρ ch.length r) (ch ++ [k]) w' := by
  have hE := push_ext (ρ := ρ) (ch := ch) hg (k := k) hr
  refine ⟨hR.wok.trans hg (fun _ h => h.elim), fun c x hx => ?_, fun c c' x x' b hx hx' ho ho' hb hb' => ?_, fun c x b hx ho hb => ?_, hR.far⟩
  · rcases getElem?_push hx with ⟨hl, hx⟩ | ⟨rfl, rfl⟩
    · have hh := hR.chunk c x hx
      rw [upd_get, if_neg (by omega)]
      exact ChunkRep.ext hE (fun ho b hb => hg.block b (hR.lt ⟨c, x, hx, ho, hb⟩) id) hh
    · rw [upd_get, if_pos rfl]; exact hk
  · rcases getElem?_push hx with ⟨hl, h1⟩ | ⟨h1, h1'⟩
    · rw [upd_get, if_neg (by omega)] at hb
      rcases getElem?_push hx' with ⟨hl', h2⟩ | ⟨h2, h2'⟩
      · rw [upd_get, if_neg (by omega)] at hb'
        exact hR.inj c c' x x' b h1 h2 ho ho' hb hb'
      · rw [upd_get, if_pos h2] at hb'
        have h3 := hR.lt ⟨c, x, h1, ho, hb⟩
        have h4 := hr b hb'
        omega
    · rw [upd_get, if_pos h1] at hb
      rcases getElem?_push hx' with ⟨hl', h2⟩ | ⟨h2, h2'⟩
      · rw [upd_get, if_neg (by omega)] at hb'
        have h3 := hR.lt ⟨c', x', h2, ho', hb'⟩
        have h4 := hr b hb
        omega
      · exact h1.trans h2.symm
  · rcases getElem?_push hx with ⟨hl, hx⟩ | ⟨rfl, rfl⟩
    · rw [upd_get, if_neg (by omega)] at hb
      exact hR.new c x b hx ho hb
    · rw [upd_get, if_pos rfl] at hb
      have := hr b hb
      have := hR.wok.size
      exact .inl (by omega)
def StepOk (P : Program) (w0 : World) (M : Nat → Prop) (ρ : Env) (ch : List Chunk) (w : World) (s : Sem Value) (r : FRes) : Prop :=
  ∃ v w' ρ', s.run P w = .ok v w' ∧ Rep w0 M ρ' (r.ch ch) w' ∧ VAV w' ρ' (r.ch ch) r.val v ∧ Ext w ρ ch w' ρ' (r.ch ch)
theorem step_pure (hR : Rep w0 M ρ ch w) {s : Sem Value} {v : Value} {p : Prop} {x : AV} (hs : s.run P w = .ok v w) (hv : VAV w ρ ch x v) : StepOk P w0 M ρ ch w s ⟨p, x, [], []⟩ :=
  ⟨v, w, ρ, hs, by simpa [FRes.ch, freezeAll] using hR, by simpa [FRes.ch, freezeAll] using hv, by simpa [FRes.ch, freezeAll] using Ext.refl w ρ ch⟩
theorem step_new (hR : Rep w0 M ρ ch w) {s : Sem Value} {v : Value} {p : Prop} {x : AV} {fz : List Nat} {k : Chunk} {r : Option Nat}
    (hs : s.run P w = .ok v w') (hg : WOk w (fun _ => False) w') (hr : ∀ b, r = some b → w.heap.size ≤ b)
    (hk : ∀ ch1, Ext w ρ ch w ρ ch1 → ch1.length = ch.length → ChunkRep w' (upd ρ ch.length r) (ch1 ++ [k]) r k)
    (hv : ∀ ch1, ch1.length = ch.length → VAV w' (upd ρ ch.length r) (ch1 ++ [k]) x v) : StepOk P w0 M ρ ch w s ⟨p, x, fz, [k]⟩ := by
  obtain ⟨h1, h2⟩ := freezeAll_rep fz hR
  have hl := freezeAll_length fz ch
  have hE := push_ext (ρ := ρ) (ch := freezeAll ch fz) hg (k := k) hr
  rw [hl] at hE
  have hP := push_rep h1 hg (k := k) hr (by rw [hl]; exact hk _ h2 hl)
  rw [hl] at hP
  exact ⟨v, w', upd ρ ch.length r, hs, hP, hv _ hl, h2.trans hE (Nat.le_refl _)⟩
theorem step_freeze (hR : Rep w0 M ρ ch w) {s : Sem Value} {v : Value} {p : Prop} {x : AV} {fz : List Nat}
    (hs : s.run P w = .ok v w) (hv : VAV w ρ (freezeAll ch fz) x v) : StepOk P w0 M ρ ch w s ⟨p, x, fz, []⟩ := by
  obtain ⟨h1, h2⟩ := freezeAll_rep fz hR
  exact ⟨v, w, ρ, hs, by simpa [FRes.ch] using h1, by simpa [FRes.ch] using hv, by simpa [FRes.ch] using h2⟩
theorem wok_push (w : World) (o : Obj) : WOk w (fun _ => False) (w.alloc o) :=
  ⟨rfl, rfl, rfl, by simp, fun b hb _ => heap_alloc_old w o b hb⟩
theorem wok_drew (w : World) : WOk w (fun _ => False) w.drew := ⟨rfl, rfl, rfl, Nat.le_refl _, fun _ _ _ => rfl⟩
end Go.VC
end
section
namespace Go.VC
open Go
variable {P : Program} {w0 w w' : World} {M : Nat → Prop} {ρ ρ' : Env} {ch ch' : List Chunk}
theorem constAV_ok (v : Value) : VAV w ρ ch (constAV v) v := by
  unfold constAV
  split <;> first
    | exact Rd.v _ rfl
    | exact Rd.nil _ _ (by simp)
    | exact trivial
theorem aeval_ok {fr : List AV} {a : Act} (h : VF w ρ ch fr a.tmps) (x : Operand) : VAV w ρ ch (aeval fr x) (a.eval x) := by
  cases x with
  | tmp t =>
    simp only [aeval, Act.eval, List.getD_eq_getElem?_getD]
    cases ht : fr[t]? with
    | none => exact trivial
    | some av => exact h.2 t av ht
  | const v => exact constAV_ok v
  | global g => exact trivial
  | func f => exact ⟨by simp, [], rfl, by simp, rfl⟩
def aggDesc : TypeDesc → Bool
  | .struct _ | .array _ _ => true
  | _ => false
def ZRel (zs : List D) (cells : Array Value) : Prop :=
  cells.size = zs.length ∧ ∀ (j : Nat) (d : D), zs[j]? = some d → ∃ x, cells[j]? = some x ∧ ((d = .v x ∧ plain x = true) ∨ (∃ w, d = .sl (some true) w [] ∧ x = .slice none 0 0))
def descOf (d : TypeDesc) : Value → Prop
  | .int k _ => d = .int k
  | .string _ => d = .string
  | .bool _ => d = .bool
  | _ => True
def TIok (P : Program) (t : TypeId) : TI → Prop
  | .one z => ∃ i x d, P.info? t = some i ∧ i.size = 1 ∧ i.zero = some x ∧ z = .v x ∧ plain x = true ∧ P.underlying t = some d ∧ aggDesc d = false ∧ descOf d x
  | .sl wd by_ ag zs => ∃ i e ie z d, P.info? t = some i ∧ i.size = 1 ∧ i.zero = some (.slice none 0 0) ∧ P.underlying t = some (.slice e) ∧
      P.info? e = some ie ∧ ie.size = wd ∧ ie.bytes = by_ ∧ ie.zero = some z ∧ ZRel zs z.cells ∧ zs.length = wd ∧ P.underlying e = some d ∧ aggDesc d = ag ∧
      (∀ x, zs = [.v x] → descOf d x)
  | .st fs zs => ∃ i fields z, P.info? t = some i ∧ i.size = zs.length ∧ i.zero = some (.agg z) ∧ ZRel zs z ∧ P.underlying t = some (.struct fields) ∧ fields.size = fs.length ∧
      ∀ (j o n : Nat) (b : Bool), fs[j]? = some (o, n, b) → ∃ f fi d, fields[j]? = some f ∧ f.offset = o ∧ P.info? f.type = some fi ∧ fi.size = n ∧ n ≠ 0 ∧ P.underlying f.type = some d ∧ aggDesc d = b ∧ o + n ≤ zs.length
def TOk (P : Program) (tt : TypeId → Option TI) : Prop := ∀ t ti, tt t = some ti → TIok P t ti
theorem run_typeInfo' {t : TypeId} {i : TypeInfo} (h : P.info? t = some i) : (typeInfo t).run P w = .ok i w := by simp [typeInfo, h]
theorem run_sizeOf' {t : TypeId} {i : TypeInfo} (h : P.info? t = some i) : (sizeOf t).run P w = .ok i.size w := by simp [sizeOf, run_typeInfo' h]
theorem run_underlying' {t : TypeId} {d : TypeDesc} (h : P.underlying t = some d) : (underlying t).run P w = .ok d w := by simp [underlying, h]
theorem run_zeroValue' {t : TypeId} {i : TypeInfo} {v : Value} (h : P.info? t = some i) (hz : i.zero = some v) : (zeroValue t).run P w = .ok v w := by simp [zeroValue, run_typeInfo' h, hz]
theorem run_isAgg' {t : TypeId} {d : TypeDesc} (h : P.underlying t = some d) : (isAgg t).run P w = .ok (aggDesc d) w := by
  simp only [isAgg, Sem.run_bind, run_underlying' h, Result.andThen_ok]
  cases d <;> simp [aggDesc]
theorem TIok.info {t : TypeId} {ti : TI} (h : TIok P t ti) : ∃ i z, P.info? t = some i ∧ i.size = ti.zs.length ∧ i.zero = some z ∧ ZRel ti.zs z.cells := by
  cases ti with
  | one z =>
    obtain ⟨i, x, d, h1, h2, h3, rfl, h5, h6, h7, _⟩ := h
    refine ⟨i, x, h1, h2, h3, ?_⟩
    have hc : x.cells = #[x] := by cases x <;> simp_all [plain, Value.cells]
    rw [hc]
    exact ⟨rfl, fun j d hj => by cases j with
      | zero => simp [TI.zs] at hj; subst hj; exact ⟨x, rfl, .inl ⟨rfl, h5⟩⟩
      | succ j => simp [TI.zs] at hj⟩
  | sl wd by_ ag zs =>
    obtain ⟨i, e, ie, z, d, h1, h2, h3, h4, h5⟩ := h
    refine ⟨i, _, h1, h2, h3, rfl, fun j d hj => ?_⟩
    cases j with
    | zero => simp [TI.zs] at hj; subst hj; exact ⟨_, rfl, .inr ⟨wd, rfl, rfl⟩⟩
    | succ j => simp [TI.zs] at hj
  | st fs zs =>
    obtain ⟨i, fields, z, h1, h2, h3, h4, h5, _⟩ := h
    exact ⟨i, .agg z, h1, h2, h3, h4⟩
theorem ZRel.rd {zs : List D} {cells : Array Value} (h : ZRel zs cells) {O : Nat → Prop} {j : Nat} {d : D} (hd : zs[j]? = some d) : ∃ x, cells[j]? = some x ∧ Rd w O d x ∧ Rd w O (unflag d) x := by
  obtain ⟨x, hx, h2⟩ := h.2 j d hd
  refine ⟨x, hx, ?_⟩
  rcases h2 with ⟨rfl, hp⟩ | ⟨wd, rfl, rfl⟩
  · exact ⟨.v _ hp, .v _ hp⟩
  · exact ⟨.nil _ _ (by simp), .nil _ _ (by simp)⟩
theorem rdI {O : Nat → Prop} {k : IntKind} {n : Int} {v : Value} (h : Rd w O (.v (.int k n)) v) : v = .int k n := by cases h; rfl
theorem rdB {O : Nat → Prop} {b : Bool} {v : Value} (h : Rd w O (.v (.bool b)) v) : v = .bool b := by cases h; rfl
theorem rdS {O : Nat → Prop} {b : ByteArray} {v : Value} (h : Rd w O (.v (.string b)) v) : v = .string b := by cases h; rfl
theorem mkI {k : IntKind} {n : Int} : VAV w ρ ch (vI k n) (.int k n) := Rd.v _ rfl
theorem mkB {b : Bool} : VAV w ρ ch (vB b) (.bool b) := Rd.v _ rfl
theorem mkS {l : List UInt8} {b : ByteArray} (h : b.data.toList = l) : VAV w ρ ch (vS l) (.string b) := by
  have : b = str l := by
    cases b with
    | mk d => simp only [str] at *; subst h; simp
  subst this; exact Rd.v _ rfl
theorem wrap_in {k : IntKind} {n : Int} (h : InK k n) : k.wrap n = n := by
  cases k <;> simp [InK, IntKind.wrap, IntKind.bits, IntKind.signed] at * <;> omega
theorem int_beq (x y : Int) : (x == y) = decide (x = y) := by by_cases h : x = y <;> simp [h]
theorem len_data (b : ByteArray) : b.data.toList.length = b.size := rfl
theorem toList_loop (b : ByteArray) : ∀ (n i : Nat) (acc : List UInt8), b.size - i = n → ByteArray.toList.loop b i acc = acc.reverse ++ b.data.toList.drop i := by
  intro n
  induction n with
  | zero =>
    intro i acc h
    rw [ByteArray.toList.loop]
    have : ¬ i < b.size := by omega
    rw [if_neg this, List.drop_eq_nil_of_le (by rw [len_data]; omega)]
    simp
  | succ n ih =>
    intro i acc h
    rw [ByteArray.toList.loop]
    have hi : i < b.size := by omega
    rw [if_pos hi, ih (i + 1) _ (by omega)]
    have hi' : i < b.data.toList.length := by rw [len_data]; exact hi
    rw [List.drop_eq_getElem_cons hi']
    have hg : b.get! i = b.data.toList[i] := by
      have : i < b.data.size := hi
      show b.data[i]! = _
      rw [getElem!_pos b.data i this]; simp
    rw [hg]; simp
theorem toList_data (b : ByteArray) : b.toList = b.data.toList := by
  rw [ByteArray.toList, toList_loop b b.size 0 [] (by omega)]
  simp
theorem list_beq (x y : List UInt8) : (x == y) = decide (x = y) := by by_cases h : x = y <;> simp [h]
theorem strBin_ok (hR : Rep w0 M ρ ch w) {op : BinOp} {x y : ByteArray} {r : FRes} (h : strBin op x y = some r) (ho : r.obl) (t : TypeId) :
    StepOk P w0 M ρ ch w (binOp op t (.string x) (.string y)) r := by
  cases op <;> simp only [strBin] at h <;> try contradiction
  case add =>
    cases h
    have ho' : x.data.toList.length + y.data.toList.length ≤ 4611686018427387904 := ho
    rw [len_data, len_data] at ho'
    have hsz : ¬ (9223372036854775807 < ((x.size : Int) + (y.size : Int))) := by omega
    refine step_pure hR (v := .string (x ++ y)) (by simp [binOp, Op.stringOp, IntKind.max, IntKind.signed, IntKind.bits, hsz]) (mkS (by simp))
  case eql => cases h; refine step_pure hR (v := .bool (decide (x.data.toList = y.data.toList))) (by simp only [binOp, Op.stringOp, toList_data, list_beq]; rfl) mkB
  case neq => cases h; refine step_pure hR (v := .bool (!decide (x.data.toList = y.data.toList))) (by simp only [binOp, Op.stringOp, toList_data, list_beq]; rfl) mkB
theorem intBin_ok (hR : Rep w0 M ρ ch w) {wr : Bool} {op : BinOp} {k : IntKind} {x y : Int} {r : FRes} (h : intBin wr op k x y = some r) (ho : r.obl) (t : TypeId) (hs : op ≠ .shl ∧ op ≠ .shr) :
    StepOk P w0 M ρ ch w (binOp op t (.int k x) (.int k y)) r := by
  cases op <;> simp only [intBin] at h <;> try contradiction
  case add => cases wr <;> cases h <;> refine step_pure hR (v := .int k (k.wrap (x + y))) (by simp [binOp, Op.intArith]) ?_; (· rw [wrap_in ho]; exact mkI); exact mkI
  case sub => cases wr <;> cases h <;> refine step_pure hR (v := .int k (k.wrap (x - y))) (by simp [binOp, Op.intArith]) ?_; (· rw [wrap_in ho]; exact mkI); exact mkI
  case mul => cases wr <;> cases h <;> refine step_pure hR (v := .int k (k.wrap (x * y))) (by simp [binOp, Op.intArith]) ?_; (· rw [wrap_in ho]; exact mkI); exact mkI
  case quo => cases h; refine step_pure hR (v := .int k (x.tdiv y)) (by simp [binOp, Op.intDiv, ho.1, wrap_in ho.2]) mkI
  case rem => cases h; refine step_pure hR (v := .int k (x.tmod y)) (by simp [binOp, Op.intDiv, show y ≠ 0 from ho]) mkI
  case and => cases h; refine step_pure hR (v := .int k (bitop .and k x y)) (by simp [binOp, Op.intBits, bitop]) mkI
  case or => cases h; refine step_pure hR (v := .int k (bitop .or k x y)) (by simp [binOp, Op.intBits, bitop]) mkI
  case xor => cases h; refine step_pure hR (v := .int k (bitop .xor k x y)) (by simp [binOp, Op.intBits, bitop]) mkI
  case andNot => cases h; refine step_pure hR (v := .int k (bitop .andNot k x y)) (by simp [binOp, Op.intBits, bitop]) mkI
  case eql => cases h; refine step_pure hR (v := .bool (decide (x = y))) (by simp [binOp, Op.intCmp, int_beq]) mkB
  case neq => cases h; refine step_pure hR (v := .bool (!decide (x = y))) (by simp [binOp, Op.intCmp, bne, int_beq]) mkB
  case lss => cases h; refine step_pure hR (v := .bool (decide (x < y))) (by simp [binOp, Op.intCmp]) mkB
  case leq => cases h; refine step_pure hR (v := .bool (decide (x ≤ y))) (by simp [binOp, Op.intCmp]) mkB
  case gtr => cases h; refine step_pure hR (v := .bool (decide (y < x))) (by simp [binOp, Op.intCmp]) mkB
  case geq => cases h; refine step_pure hR (v := .bool (decide (y ≤ x))) (by simp [binOp, Op.intCmp]) mkB
theorem rdSl {O : Nat → Prop} {nf : Option Bool} {wd : Nat} {es : List (List D)} {v : Value} (h : Rd w O (.sl nf wd es) v) :
    ∃ a n c, v = .slice a n c ∧ n = es.length ∧ (nf = some true → a = none) ∧ (nf = some false → a ≠ none) := by
  cases h with
  | nil => exact ⟨none, 0, 0, rfl, rfl, fun _ => rfl, fun h => by simp_all⟩
  | sl _ _ _ b off cap f hn => exact ⟨_, _, _, rfl, rfl, fun h => by simp_all, fun _ => by simp⟩
def EqT (P : Program) (t : TypeId) (x : Value) : Prop := ∃ d, P.underlying t = some d ∧ match x with
  | .bool _ => d = .bool
  | .slice .. => ∃ e, d = .slice e
  | _ => True
theorem shl_ok {k k' : IntKind} {a b : Int} (hb : 0 ≤ b) (t : TypeId) :
    (binOp .shl t (.int k a) (.int k' b)).run P w = .ok (.int k (k.wrap (a * 2 ^ min b.toNat k.bits))) w := by
  have : ¬ b < 0 := by omega
  simp [binOp, Op.shift, this]
theorem shr_ok {k k' : IntKind} {a b : Int} (hb : 0 ≤ b) (t : TypeId) :
    (binOp .shr t (.int k a) (.int k' b)).run P w = .ok (.int k (a.fdiv (2 ^ min b.toNat k.bits))) w := by
  have : ¬ b < 0 := by omega
  simp [binOp, Op.shift, this]
theorem eq_bool_ok {a b : Bool} {t : TypeId} (ht : P.underlying t = some .bool) : (Op.equal t (.bool a) (.bool b)).run P w = .ok (a == b) w := by
  rw [Op.equal, Op.maxDepth, show (10000 : Nat) = 9999 + 1 from rfl, Op.equalIn]
  simp [run_underlying' ht]
theorem eq_slice_ok {a b : Option Addr} {n c n' c' : Nat} {t e : TypeId} (ht : P.underlying t = some (.slice e)) (hn : b = none) : (Op.equal t (.slice a n c) (.slice b n' c')).run P w = .ok a.isNone w := by
  subst hn
  rw [Op.equal, Op.maxDepth, show (10000 : Nat) = 9999 + 1 from rfl, Op.equalIn]
  cases a <;> simp [run_underlying' ht]
def binT (P : Program) (op : BinOp) (t : TypeId) (x : AV) : Prop :=
  match op, x with
  | .eql, .s (.d (.v (.bool _))) | .neq, .s (.d (.v (.bool _))) => P.underlying t = some .bool
  | .eql, .s (.d (.sl ..)) | .neq, .s (.d (.sl ..)) => ∃ e, P.underlying t = some (.slice e)
  | _, _ => True
theorem abin_ok (hR : Rep w0 M ρ ch w) {wr : Bool} {op : BinOp} {x y : AV} {r : FRes} (h : abin wr op x y = some r) (ho : r.obl) (t : TypeId) (hT : binT P op t x) {vx vy : Value}
    (hx : VAV w ρ ch x vx) (hy : VAV w ρ ch y vy) : StepOk P w0 M ρ ch w (binOp op t vx vy) r := by
  unfold abin at h
  split at h
  · 
    rename_i k a k' b
    have e1 := rdI hx; have e2 := rdI hy; subst e1 e2
    cases wr <;> cases h
    · obtain ⟨h1, h2, h3⟩ := (ho : 0 ≤ b ∧ b < k.bits ∧ InK k (a * 2 ^ b.toNat))
      refine step_pure hR (shl_ok h1 t) ?_
      have : min b.toNat k.bits = b.toNat := by omega
      rw [this, wrap_in h3]; exact mkI
    · refine step_pure hR (shl_ok ho t) mkI
  · 
    rename_i k a k' b
    have e1 := rdI hx; have e2 := rdI hy; subst e1 e2
    split at h
    · rename_i hk
      cases h
      refine step_pure hR (shr_ok ho t) ?_
      rw [hk, Int.fdiv_eq_ediv_of_nonneg _ (Int.pow_nonneg (by decide))]
      exact mkI
    · cases h
      obtain ⟨h1, h2⟩ := (ho : 0 ≤ b ∧ b < k.bits)
      refine step_pure hR (shr_ok h1 t) ?_
      have hb : k.bits ≤ 64 := by cases k <;> decide
      have e1 : min b.toNat k.bits = b.toNat := by omega
      have e2 : min b.toNat 64 = b.toNat := by omega
      rw [e1, Int.fdiv_eq_ediv_of_nonneg _ (Int.pow_nonneg (by decide)), show a / 2 ^ b.toNat = ashr a b by rw [ashr, e2]]
      exact mkI
  · rename_i op k a k' b hs1 hs2
    have e1 := rdI hx; have e2 := rdI hy; subst e1 e2
    split at h
    · rename_i hk; subst hk
      exact intBin_ok hR h ho t ⟨hs1, hs2⟩
    · cases h
  · have e1 := rdS hx; have e2 := rdS hy; subst e1 e2
    exact strBin_ok hR h ho t
  · have e1 := rdB hx; have e2 := rdB hy; subst e1 e2
    cases h
    exact step_pure hR (v := .bool _) (by simp [binOp, eq_bool_ok hT]) mkB
  · have e1 := rdB hx; have e2 := rdB hy; subst e1 e2
    cases h
    exact step_pure hR (v := .bool _) (by simp [binOp, eq_bool_ok hT]) mkB
  all_goals
    first
    | contradiction
    | (obtain ⟨a, n, c, rfl, _, h1, h2⟩ := rdSl hx
       obtain ⟨a', n', c', rfl, _, h1', h2'⟩ := rdSl hy
       obtain ⟨e, hT⟩ := hT
       cases h
       refine step_pure hR (v := .bool _) (by simp [binOp, eq_slice_ok hT (h1' rfl)]; rfl) ?_
       first
         | (have := h1 rfl; subst this; exact mkB)
         | (have := h2 rfl; cases a <;> first | contradiction | exact mkB))
theorem aun_ok (hR : Rep w0 M ρ ch w) {wr : Bool} {op : UnOp} {x : AV} {r : FRes} (h : aun wr op x = some r) (ho : r.obl) {vx : Value} (hx : VAV w ρ ch x vx) :
    StepOk P w0 M ρ ch w (Op.unary op vx) r := by
  unfold aun at h
  split at h
  · rename_i k n
    have e1 := rdI hx; subst e1
    cases wr <;> cases h <;> refine step_pure hR (v := .int k (k.wrap (0 - n))) (by simp [Op.unary, Op.intArith]) ?_
    · rw [wrap_in ho]; exact mkI
    · exact mkI
  · have e1 := rdB hx; subst e1
    cases h
    exact step_pure hR (v := .bool _) (by simp [Op.unary]) mkB
  · cases h
end Go.VC
end
section
namespace Go.VC
open Go
variable {P : Program} {w0 w w' : World} {M : Nat → Prop} {ρ ρ' : Env} {ch ch' : List Chunk} {tt : TypeId → Option TI}
theorem getD_some {c : Nat} {k : Chunk} (h : ch.getD c .dead = k) (hk : k ≠ .dead) : ch[c]? = some k := by
  rw [List.getD_eq_getElem?_getD] at h
  cases hx : ch[c]? with
  | none => simp [hx] at h; exact absurd h.symm hk
  | some x => simp [hx] at h; rw [h]
def VAs (w : World) (ρ : Env) (ch : List Chunk) (as : List A) (cs : Array Value) : Prop :=
  cs.size = as.length ∧ ∀ (j : Nat) (a : A), as[j]? = some a → ∃ x, cs[j]? = some x ∧ VA w ρ ch a x
theorem avAs_ok {x : AV} {as : List A} (h : avAs x = some as) {v : Value} (hv : VAV w ρ ch x v) : VAs w ρ ch as v.cells := by
  cases x with
  | s a =>
    cases h
    have h1 := VA.oneCell hv
    have hc : v.cells = #[v] := by cases v <;> simp_all [one1, Value.cells]
    rw [hc]
    refine ⟨rfl, fun j b hb => ?_⟩
    cases j with
    | zero => simp at hb; subst hb; exact ⟨v, rfl, hv⟩
    | succ j => simp at hb
  | g as' =>
    cases h
    obtain ⟨vs, rfl, h1, h2⟩ := hv
    exact ⟨h1, h2⟩
  | t xs => simp [avAs] at h
  | u => simp [avAs] at h
theorem newVar_ok (hR : Rep w0 M ρ ch w) {v : Value} {as : List A} (hv : VAs w ρ ch as v.cells) (t : TypeId) {p : Prop} :
    StepOk P w0 M ρ ch w (do pure (.pointer (some (← newVar t v)))) ⟨p, .s (.ptr ch.length 0), [], [.box as]⟩ := by
  refine step_new hR (v := .pointer (some ⟨w.heap.size, 0, none⟩)) (w' := w.alloc (.cells v.cells t)) (r := some w.heap.size) (by simp [newVar, newRow]) (wok_push w _) (by simp) ?_ ?_
  · intro ch1 hE hl
    have hE2 := push_ext (ρ := ρ) (ch := ch1) (wok_push w (.cells v.cells t)) (k := .box as) (r := some w.heap.size) (by simp)
    rw [hl] at hE2
    refine ⟨w.heap.size, v.cells, t, (0, 0), rfl, heap_alloc_new w _, .inl (Nat.le_refl _), hv.1, fun j a hj => ?_⟩
    obtain ⟨x, hx, ha⟩ := hv.2 j a hj
    exact ⟨x, hx, VA.ext hE2 (VA.ext hE ha)⟩
  · intro ch1 hl
    exact ⟨by simp [hl], w.heap.size, by simp [upd], rfl⟩
theorem zrel_vas {zs : List D} {cells : Array Value} (h : ZRel zs cells) : VAs w ρ ch (zs.map .d) cells := by
  refine ⟨by simpa using h.1, fun j a hj => ?_⟩
  rw [List.getElem?_map] at hj
  cases hz : zs[j]? with
  | none => simp [hz] at hj
  | some d =>
    simp [hz] at hj; subst hj
    obtain ⟨x, hx, hd, _⟩ := h.rd (w := w) (O := Own ρ ch) hz
    exact ⟨x, hx, hd⟩
theorem alloc_ok (hR : Rep w0 M ρ ch w) {t : TypeId} {ti : TI} (ht : TIok P t ti) :
    StepOk P w0 M ρ ch w (Instr.alloc t true (.tuple #[])) ⟨True, .s (.ptr ch.length 0), [], [.box (ti.zs.map .d)]⟩ := by
  obtain ⟨i, z, h1, h2, h3, h4⟩ := ht.info
  have := newVar_ok (P := P) hR (zrel_vas (w := w) (ρ := ρ) (ch := ch) h4) t (p := True)
  obtain ⟨v, w', ρ', hrun, rest⟩ := this
  refine ⟨v, w', ρ', ?_, rest⟩
  rw [← hrun]
  simp [Instr.alloc, run_zeroValue' h1 h3]
theorem box_ok (hR : Rep w0 M ρ ch w) {x : AV} {as : List A} (h : avAs x = some as) {v : Value} (hv : VAV w ρ ch x v) (t : TypeId) :
    StepOk P w0 M ρ ch w (Instr.box t v) ⟨True, .s (.ptr ch.length 0), [], [.box as]⟩ :=
  newVar_ok hR (avAs_ok h hv) t
theorem takeT_ok {ti : TI} {cells : List A} {off : Nat} {x : AV} (h : takeT ti cells off = some x) :
    (∃ fs zs, ti = .st fs zs ∧ off + zs.length ≤ cells.length ∧ x = .g ((cells.drop off).take zs.length)) ∨
    ((∀ fs zs, ti ≠ .st fs zs) ∧ ∃ a, cells[off]? = some a ∧ x = .s a) := by
  cases ti with
  | st fs zs =>
    simp only [takeT] at h
    split at h
    · cases h; exact .inl ⟨fs, zs, rfl, by assumption, rfl⟩
    · cases h
  | one z =>
    right
    refine ⟨by simp, ?_⟩
    simp only [takeT] at h
    split at h
    · rename_i a l hd
      cases h
      exact ⟨a, by have := congrArg (·[0]?) hd; simpa using this, rfl⟩
    · cases h
  | sl =>
    right
    refine ⟨by simp, ?_⟩
    simp only [takeT] at h
    split at h
    · rename_i a l hd
      cases h
      exact ⟨a, by have := congrArg (·[0]?) hd; simpa using this, rfl⟩
    · cases h
theorem TIok.load {t : TypeId} {ti : TI} (ht : TIok P t ti) : (∃ fs zs i, ti = .st fs zs ∧ P.info? t = some i ∧ i.size = zs.length ∧ (isAgg t).run P w = .ok true w) ∨
    ((∀ fs zs, ti ≠ .st fs zs) ∧ (isAgg t).run P w = .ok false w) := by
  cases ti with
  | one z =>
    obtain ⟨i, x, d, h1, h2, h3, rfl, h5, h6, h7, _⟩ := ht
    exact .inr ⟨by simp, by rw [run_isAgg' h6, h7]⟩
  | sl wd by_ ag zs =>
    obtain ⟨i, e, ie, z, d, h1, h2, h3, h4, _⟩ := ht
    exact .inr ⟨by simp, by rw [run_isAgg' h4]; rfl⟩
  | st fs zs =>
    obtain ⟨i, fields, z, h1, h2, h3, h4, h5, _⟩ := ht
    exact .inl ⟨fs, zs, i, rfl, h1, h2, by rw [run_isAgg' h5]; rfl⟩
theorem addr_add (b off n : Nat) : (⟨b, off, none⟩ : Addr).add n = ⟨b, off + n, none⟩ := by
  unfold Addr.add; split <;> simp_all
def MemAs (w : World) (ρ : Env) (ch : List Chunk) (b off : Nat) (as : List A) : Prop :=
  ∀ (j : Nat) (a : A), as[j]? = some a → ∃ x, w.cell? ⟨b, off + j, none⟩ = some x ∧ VA w ρ ch a x
theorem load_pure {t : TypeId} {ti : TI} (ht : TIok P t ti) {b off : Nat} {as : List A} (hm : MemAs w ρ ch b off as) {x : AV} (h : takeT ti as 0 = some x) :
    ∃ v, (Instr.loadAt t (.pointer (some ⟨b, off, none⟩))).run P w = .ok v w ∧ VAV w ρ ch x v := by
  rcases takeT_ok h with ⟨fs, zs, rfl, hl, rfl⟩ | ⟨hn, a, ha, rfl⟩
  · rcases ht.load (w := w) with ⟨fs', zs', i, he, h1, h2, h3⟩ | ⟨hn, _⟩
    · cases he
      simp only [List.drop_zero, Nat.zero_add] at *
      have hv : ∀ j, j < zs.length → ∃ y, w.cell? ((⟨b, off, none⟩ : Addr).add j) = some y ∧ VA w ρ ch (as[j]?.getD .junk) y := by
        intro j hj
        obtain ⟨y, hy, hva⟩ := hm j as[j] (by simp)
        refine ⟨y, by rw [addr_add]; exact hy, ?_⟩
        have : as[j]? = some as[j] := by simp
        rw [this]; exact hva
      let f : Nat → Value := fun j => (w.cell? ((⟨b, off, none⟩ : Addr).add j)).getD undef
      have hf : ∀ j, j < zs.length → w.cell? ((⟨b, off, none⟩ : Addr).add j) = some (f j) := by
        intro j hj
        obtain ⟨y, hy, _⟩ := hv j hj
        simp [f, hy]
      have hrun := run_loadCells (P := P) w ⟨b, off, none⟩ zs.length f hf
      refine ⟨.agg ((List.range zs.length).map f).toArray, (by simp [Instr.loadAt, Instr.sureAddr, loadVar, h3, run_sizeOf' h1, h2, hrun]), ?_⟩
      refine ⟨_, rfl, by simp; omega, fun j a ha => ?_⟩
      have hj : j < zs.length := by
        have := (List.getElem?_eq_some_iff.1 ha).1
        simp at this; omega
      obtain ⟨y, hy, hva⟩ := hv j hj
      refine ⟨f j, by simp [hj], ?_⟩
      have : f j = y := by simp [f, hy]
      rw [this]
      rw [List.getElem?_take_of_lt hj] at ha
      rw [ha] at hva
      exact hva
    · exact absurd rfl (hn fs zs)
  · rcases ht.load (w := w) with ⟨fs', zs', i, he, _⟩ | ⟨_, h3⟩
    · exact absurd he (hn _ _)
    · obtain ⟨y, hy, hva⟩ := hm 0 a ha
      refine ⟨y, ?_, hva⟩
      simp at hy
      simp [Instr.loadAt, Instr.sureAddr, loadVar, h3, run_load, hy]
theorem memAs_drop {b off n : Nat} {as : List A} (h : MemAs w ρ ch b off as) : MemAs w ρ ch b (off + n) (as.drop n) := by
  intro j a ha
  rw [List.getElem?_drop] at ha
  obtain ⟨x, hx, hva⟩ := h (n + j) a ha
  exact ⟨x, by rw [show off + n + j = off + (n + j) by omega]; exact hx, hva⟩
theorem takeT_drop {ti : TI} {cells : List A} {off : Nat} {x : AV} (h : takeT ti cells off = some x) : takeT ti (cells.drop off) 0 = some x := by
  cases ti with
  | st fs zs =>
    simp only [takeT] at h ⊢
    split at h
    · rename_i hl
      cases h
      rw [if_pos (by simp; omega)]; simp
    · cases h
  | one z => simpa only [takeT, List.drop_zero] using h
  | sl => simpa only [takeT, List.drop_zero] using h
theorem box_mem (hR : Rep w0 M ρ ch w) {c : Nat} {cells : List A} (hc : ch[c]? = some (.box cells)) {b : Nat} (hb : ρ c = some b) : MemAs w ρ ch b 0 cells := by
  obtain ⟨b', cur, t, fr, hb', hh, _, _, hcell⟩ := hR.chunk c _ hc
  rw [hb] at hb'; cases hb'
  intro j a ha
  obtain ⟨x, hx, hva⟩ := hcell j a ha
  exact ⟨x, by simp [World.cell?, hh, hx], hva⟩
theorem getc_some {es : List (List D)} {i j : Nat} {e : List D} {d : D} (he : es[i]? = some e) (hd : e[j]? = some d) : getc es i j = some d := by simp [getc, he, hd]
theorem sl_cell (hR : Rep w0 M ρ ch w) {c : Nat} {nf : Option Bool} {wd : Nat} {es : List (List D)} (hc : ch[c]? = some (.sl nf wd es)) {b : Nat} (hb : ρ c = some b)
    {i j : Nat} {d : D} (hd : getc es i j = some d) : ∃ x, w.cell? ⟨b, i * wd + j, none⟩ = some x ∧ Rd w (Own ρ ch) d x := by
  obtain ⟨_, h2⟩ := hR.chunk c _ hc
  rcases h2 with ⟨hn, _⟩ | ⟨b', cur, t, fr, cap, hb', _, hh, _, _, _, hcell⟩
  · rw [hb] at hn; cases hn
  · rw [hb] at hb'; cases hb'
    obtain ⟨x, hx, hva⟩ := hcell i j d hd
    exact ⟨x, by simp [World.cell?, hh, hx], hva⟩
theorem rowT_get {es : List (List D)} {i : Nat} {e : List D} (he : es[i]? = some e) : ∀ {zs : List D} {off j : Nat} {d : D}, (rowT es i zs off)[j]? = some d → off + zs.length ≤ e.length → e[off + j]? = some d := by
  intro zs
  induction zs with
  | nil => intro off j d h; simp [rowT] at h
  | cons z zs ih =>
    intro off j d h hl
    simp only [List.length_cons] at hl
    cases j with
    | zero =>
      simp only [rowT, List.getElem?_cons_zero, Option.some.injEq] at h
      subst h
      have : off < e.length := by omega
      simp [cell, getc, he, this]
    | succ j =>
      simp only [rowT, List.getElem?_cons_succ] at h
      have := ih h (by omega)
      rw [show off + (j + 1) = off + 1 + j by omega]; exact this
theorem rowT_length {es : List (List D)} {i : Nat} : ∀ {zs : List D} {off : Nat}, (rowT es i zs off).length = zs.length := by
  intro zs
  induction zs with
  | nil => intro off; rfl
  | cons z zs ih => intro off; simp [rowT, ih]
theorem row_mem (hR : Rep w0 M ρ ch w) {c : Nat} {nf : Option Bool} {wd : Nat} {es : List (List D)} (hc : ch[c]? = some (.sl nf wd es)) {b : Nat} (hb : ρ c = some b)
    {i off : Nat} {zs : List D} (hi : i < es.length) (hl : off + zs.length ≤ wd) : MemAs w ρ ch b (i * wd + off) ((rowT es i zs off).map .d) := by
  intro j a ha
  rw [List.getElem?_map] at ha
  cases hr : (rowT es i zs off)[j]? with
  | none => simp [hr] at ha
  | some d =>
    simp [hr] at ha; subst ha
    have he : es[i]? = some es[i] := by simp
    have hw : es[i].length = wd := (hR.chunk c _ hc).1 _ (List.getElem_mem hi)
    have := rowT_get he hr (by omega)
    obtain ⟨x, hx, hrd⟩ := sl_cell hR hc hb (getc_some he this)
    exact ⟨x, by rw [show i * wd + off + j = i * wd + (off + j) by omega]; exact hx, hrd⟩
theorem dptr_mem {cells : List D} {v : Value} (h : VA w ρ ch (.dptr cells) v) : ∃ b off, v = .pointer (some ⟨b, off, none⟩) ∧ MemAs w ρ ch b off (cells.map .d) := by
  obtain ⟨b, off, rfl, hc⟩ := h
  refine ⟨b, off, rfl, fun j a ha => ?_⟩
  rw [List.getElem?_map] at ha
  cases hr : cells[j]? with
  | none => simp [hr] at ha
  | some d =>
    simp [hr] at ha; subst ha
    obtain ⟨_, x, hx, hd⟩ := hc j d hr
    exact ⟨x, hx, hd⟩
theorem aload_pure (hR : Rep w0 M ρ ch w) {t : TypeId} {ti : TI} (ht : TIok P t ti) {x : AV} {r : FRes} (h : aload ch ti x = some r) {v : Value} (hv : VAV w ρ ch x v) :
    r.obl ∧ r.fz = [] ∧ r.new = [] ∧ ∃ v', (Instr.loadAt t v).run P w = .ok v' w ∧ VAV w ρ ch r.val v' := by
  unfold aload at h
  split at h
  · 
    rename_i c off
    split at h
    · rename_i cells hg
      have hc := getD_some hg (by simp)
      obtain ⟨_, b, hb, rfl⟩ := hv
      split at h
      · rename_i y hy
        cases h
        have hm := memAs_drop (n := off) (box_mem hR hc hb)
        rw [Nat.zero_add] at hm
        exact ⟨trivial, rfl, rfl, load_pure ht hm (takeT_drop hy)⟩
      · cases h
    · cases h
  · rename_i c i off
    split at h
    · rename_i nf wd es hg
      have hc := getD_some hg (by simp)
      simp only [VAV, VA, hc] at hv
      obtain ⟨hi, b, hb, rfl⟩ := hv
      split at h
      · rename_i hl
        split at h
        · rename_i fs zs
          cases h
          have hm := row_mem hR hc hb (zs := zs) hi hl
          refine ⟨trivial, rfl, rfl, load_pure ht hm ?_⟩
          have hlen : ((rowT es i zs off).map A.d).length = zs.length := by simp [rowT_length]
          rw [takeT, if_pos (by omega), List.drop_zero, List.take_of_length_le (by omega)]
        · rename_i z
          cases h
          have hm := row_mem hR hc hb (zs := [z]) hi hl
          exact ⟨trivial, rfl, rfl, load_pure ht hm (by simp [takeT, rowT])⟩
        · rename_i w1 b1 a1 z1
          cases h
          have hm := row_mem hR hc hb (zs := [D.sl (some true) w1 []]) hi hl
          exact ⟨trivial, rfl, rfl, load_pure ht hm (by simp [takeT, rowT, unflag])⟩
      · cases h
    · cases h
  · rename_i cells
    obtain ⟨b, off, rfl, hm⟩ := dptr_mem hv
    split at h
    · rename_i y hy
      cases h
      exact ⟨trivial, rfl, rfl, load_pure ht hm hy⟩
    · cases h
  · cases h
theorem aload_ok (hR : Rep w0 M ρ ch w) {t : TypeId} {ti : TI} (ht : TIok P t ti) {x : AV} {r : FRes} (h : aload ch ti x = some r) {v : Value} (hv : VAV w ρ ch x v) :
    StepOk P w0 M ρ ch w (Instr.loadAt t v) r := by
  obtain ⟨_, h1, h2, v', hrun, hva⟩ := aload_pure hR ht h hv
  obtain ⟨o, val, fz, new⟩ := r
  simp only at h1 h2; subst h1 h2
  exact step_pure hR hrun hva
end Go.VC
end
section
namespace Go.VC
open Go
variable {P : Program} {w0 w w' : World} {M : Nat → Prop} {ρ ρ' : Env} {ch ch' : List Chunk} {tt : TypeId → Option TI}
theorem extract_ok (hR : Rep w0 M ρ ch w) {x y : AV} {xs : List AV} {i : Nat} (hx : x = .t xs) (hy : xs[i]? = some y) (hn : ∀ ys, y ≠ .t ys) {v : Value} (hv : VAV w ρ ch x v) {p : Prop} :
    StepOk P w0 M ρ ch w (Instr.extract v i) ⟨p, y, [], []⟩ := by
  subst hx
  obtain ⟨vs, rfl, hs, hj⟩ := hv
  obtain ⟨z, hz, hva⟩ := hj i y hy
  refine step_pure hR (v := z) (by simp [Instr.extract, hz]) ?_
  cases y with
  | s a => exact hva
  | g as => exact hva
  | t ys => exact absurd rfl (hn ys)
  | u => trivial
def lenD (d : TypeDesc) : AV → Prop
  | .s (.d (.v (.string _))) => d = .string
  | _ => ∃ e, d = .slice e
theorem len_ok (hR : Rep w0 M ρ ch w) {x : AV} {r : FRes} (h : alen ch x = some r) {v : Value} (hv : VAV w ρ ch x v) {t ty : TypeId} {d : TypeDesc} (hd : P.underlying t = some d)
    (hT : lenD d x) :
    StepOk P w0 M ρ ch w (Builtin.len_ #[t] ty #[v]) r := by
  unfold alen at h
  split at h
  · have e1 := rdS hv; subst e1
    cases h
    simp only [lenD] at hT; subst hT
    refine step_pure hR (v := goInt _) (by simp [Builtin.len_, run_underlying' hd]; rfl) ?_
    exact Rd.v _ rfl
  · obtain ⟨a, n, c, rfl, rfl, _⟩ := rdSl hv
    cases h
    obtain ⟨e, rfl⟩ := hT
    refine step_pure hR (v := goInt _) (by simp [Builtin.len_, run_underlying' hd]; rfl) ?_
    exact Rd.v _ rfl
  · rename_i c
    obtain ⟨e, rfl⟩ := hT
    split at h
    · rename_i nf wd es hg
      have hc := getD_some hg (by simp)
      cases h
      have h2 := (hR.chunk c _ hc).2
      simp only [VAV, VA, hc] at hv
      have : ∃ a c', v = .slice a es.length c' := by
        rcases hv with ⟨hn, rfl⟩ | ⟨b, cap, cur, t', fr, _, rfl, _⟩
        · rcases h2 with ⟨_, rfl, _⟩ | ⟨b, cur, t', fr, cap, hb, _⟩
          · exact ⟨_, _, rfl⟩
          · rw [hn] at hb; cases hb
        · exact ⟨_, _, rfl⟩
      obtain ⟨a, c', rfl⟩ := this
      refine step_pure hR (v := goInt _) (by simp [Builtin.len_, run_underlying' hd]; rfl) ?_
      exact Rd.v _ rfl
    · rename_i nf wd es hg
      have hc := getD_some hg (by simp)
      cases h
      simp only [VAV, VA, hc] at hv
      obtain ⟨a, n, c, rfl, rfl, _⟩ := rdSl hv
      refine step_pure hR (v := goInt _) (by simp [Builtin.len_, run_underlying' hd]; rfl) ?_
      exact Rd.v _ rfl
    · cases h
  · cases h
theorem index_ok (hR : Rep w0 M ρ ch w) {x i : AV} {r : FRes} (h : aindex x i = some r) (ho : r.obl) {vx vi : Value} (hx : VAV w ρ ch x vx) (hi : VAV w ρ ch i vi) {t : TypeId} (hd : P.underlying t = some .string) :
    StepOk P w0 M ρ ch w (Instr.index t vx vi) r := by
  unfold aindex at h
  split at h
  · rename_i b k n
    have e1 := rdS hx; have e2 := rdI hi; subst e1 e2
    cases h
    obtain ⟨h1, h2⟩ := (ho : 0 ≤ n ∧ n < b.data.toList.length)
    rw [len_data] at h2
    have hlt : n.toNat < b.size := by omega
    refine step_pure hR (v := .int .u8 b[n.toNat].toNat) ?_ ?_
    · simp [Instr.index, asIntOf, run_underlying' hd, h1, hlt]
    · have hlt' : n.toNat < b.data.toList.length := hlt
      have : b.data.toList.getD n.toNat 0 = b[n.toNat] := by
        rw [List.getD_eq_getElem?_getD, List.getElem?_eq_getElem hlt']; rfl
      rw [this]; exact mkI
  · cases h
theorem indexAt_run {t e : TypeId} {ie : TypeInfo} {b off n c : Nat} {k : IntKind} {i : Int} (hd : P.underlying t = some (.slice e)) (he : P.info? e = some ie) (h0 : 0 ≤ i) (h1 : i < n) :
    (Instr.indexAt t (.slice (some ⟨b, off, none⟩) n c) (.int k i)).run P w = .ok (.pointer (some ⟨b, off + i.toNat * ie.size, none⟩)) w := by
  simp [Instr.indexAt, asIntOf, run_underlying' hd, h0, h1, run_sizeOf' he, addr_add]
theorem indexAddr_ok (hR : Rep w0 M ρ ch w) {ti : TI} {x i : AV} {r : FRes} {t : TypeId} (ht : TIok P t ti) (h : aindexAddr ch (some ti) x i = some r) (ho : r.obl) {vx vi : Value}
    (hx : VAV w ρ ch x vx) (hi : VAV w ρ ch i vi) : StepOk P w0 M ρ ch w (Instr.indexAt t vx vi) r := by
  unfold aindexAddr at h
  split at h
  · rename_i wd by_ ag zs k n hti
    cases hti
    obtain ⟨ii, e, ie, z, d, h1, h2, h3, h4, h5, h6, h7, h8, h9, h10, _⟩ := ht
    have e2 := rdI hi; subst e2
    have key : ∀ {nf : Option Bool} {wd' : Nat} {es : List (List D)}, wd = wd' → (0 ≤ n ∧ n < es.length) → Rd w (Own ρ ch) (.sl nf wd' es) vx →
        StepOk P w0 M ρ ch w (Instr.indexAt t vx (.int k n)) ⟨0 ≤ n ∧ n < es.length, .s (.dptr (rowT es n.toNat zs 0)), [], []⟩ := by
      intro nf wd' es hwd ho hrd
      subst hwd
      cases hrd with
      | nil => simp at ho; omega
      | sl _ _ _ b off cap f hn hl hw hc hr =>
        refine step_pure hR (v := .pointer (some ⟨b, off + n.toNat * ie.size, none⟩)) (indexAt_run h4 h5 ho.1 ho.2) ?_
        refine ⟨b, off + n.toNat * ie.size, rfl, fun j d hj => ?_⟩
        have hlt : n.toNat < es.length := by omega
        have he : es[n.toNat]? = some es[n.toNat] := by simp
        have hwl : es[n.toNat].length = wd := hw _ (List.getElem_mem hlt)
        have := rowT_get he hj (by omega)
        rw [Nat.zero_add] at this
        have hg := getc_some he this
        obtain ⟨hO, hcell⟩ := hc _ _ _ hg
        refine ⟨hO, _, ?_, hr _ _ _ hg⟩
        rw [h6, Nat.add_assoc]; exact hcell
    split at h
    · rename_i c
      split at h
      · rename_i nf wd' es hg
        split at h
        · rename_i hwd; subst hwd
          cases h
          have ho : 0 ≤ n ∧ n < es.length := ho
          have hc := getD_some hg (by simp)
          have h2' := (hR.chunk c _ hc).2
          simp only [VAV, VA, hc] at hx
          rcases hx with ⟨hn, rfl⟩ | ⟨b, cap, cur, t', fr, hb, rfl, hh, _⟩
          · rcases h2' with ⟨_, rfl, _⟩ | ⟨b, cur, t', fr, cap, hb, _⟩
            · simp at ho; omega
            · rw [hn] at hb; cases hb
          · refine step_pure hR (v := .pointer (some ⟨b, 0 + n.toNat * ie.size, none⟩)) (indexAt_run h4 h5 ho.1 ho.2) ?_
            simp only [VAV, VA, hc]
            exact ⟨by omega, b, hb, by rw [h6, Nat.zero_add, Nat.add_zero]⟩
        · cases h
      · rename_i nf wd' es hg
        split at h
        · rename_i hwd
          cases h
          have hc := getD_some hg (by simp)
          simp only [VAV, VA, hc] at hx
          exact key hwd ho hx
        · cases h
      · cases h
    · rename_i nf wd' es
      split at h
      · rename_i hwd
        cases h
        exact key hwd ho hx
      · cases h
    · cases h
  · cases h
theorem fieldAddr_ok (hR : Rep w0 M ρ ch w) {ti : TI} {x : AV} {f : Nat} {r : FRes} {t : TypeId} (ht : TIok P t ti) (h : afieldAddr ch (some ti) x f = some r) {v : Value} (hv : VAV w ρ ch x v) :
    StepOk P w0 M ρ ch w (Instr.fieldAt t v f) r := by
  unfold afieldAddr at h
  split at h
  · rename_i fs zs hti
    cases hti
    obtain ⟨i, fields, z, h1, h2, h3, h4, h5, h6, h7⟩ := ht
    split at h
    · rename_i o n ag hf
      obtain ⟨fd, fi, d, hfd, rfl, hfi, hfs, hn, _⟩ := h7 f o n ag hf
      have key : ∀ (b off : Nat), (Instr.fieldAt t (.pointer (some ⟨b, off, none⟩)) f).run P w = .ok (.pointer (some ⟨b, off + fd.offset, none⟩)) w := by
        intro b off
        have hz : ¬ fi.size = 0 := by omega
        simp [Instr.fieldAt, run_underlying' h5, hfd, Instr.sureAddr, fieldPlace, run_sizeOf' hfi, hz, addr_add]
      split at h
      · cases h
        obtain ⟨hc, b, hb, rfl⟩ := hv
        exact step_pure hR (key _ _) ⟨hc, b, hb, rfl⟩
      · rename_i c ii off
        split at h
        · rename_i nf wd es hg
          have hc := getD_some hg (by simp)
          cases h
          simp only [VAV, VA, hc] at hv
          obtain ⟨hi, b, hb, rfl⟩ := hv
          refine step_pure hR (key _ _) ?_
          simp only [VAV, VA, hc]
          exact ⟨hi, b, hb, by rw [Nat.add_assoc]⟩
        · cases h
      · cases h
        obtain ⟨b, off, rfl, hc⟩ := hv
        refine step_pure hR (key _ _) ⟨b, off + fd.offset, rfl, fun j d hj => ?_⟩
        rw [List.getElem?_drop] at hj
        obtain ⟨hO, y, hy, hd⟩ := hc _ _ hj
        exact ⟨hO, y, by rw [Nat.add_assoc]; exact hy, hd⟩
      · cases h
    · cases h
  · cases h
theorem field_ok (hR : Rep w0 M ρ ch w) {ti : TI} {x : AV} {f : Nat} {r : FRes} {t : TypeId} (ht : TIok P t ti) (h : afield (some ti) x f = some r) {v : Value} (hv : VAV w ρ ch x v) :
    StepOk P w0 M ρ ch w (Instr.field t v f) r := by
  unfold afield at h
  split at h
  · rename_i fs zs hti
    cases hti
    obtain ⟨i, fields, z, h1, h2, h3, h4, h5, h6, h7⟩ := ht
    split at h
    · rename_i o n ag hf
      obtain ⟨fd, fi, d, hfd, rfl, hfi, hfs, hn, hfd', hag, _⟩ := h7 f o n ag hf
      split at h
      · rename_i as
        obtain ⟨vs, rfl, hs, hj⟩ := hv
        split at h
        · split at h
          · rename_i hl
            cases h
            refine step_pure hR (v := .agg (vs.extract fd.offset (fd.offset + fi.size))) ?_ ?_
            · simp [Instr.field, run_underlying' h5, hfd, asAgg, part, run_isAgg' hfd', hag, run_sizeOf' hfi]
            · refine ⟨_, rfl, by simp; omega, fun j a ha => ?_⟩
              have hjn : j < n := by
                have := (List.getElem?_eq_some_iff.1 ha).1
                simp at this; omega
              rw [List.getElem?_take_of_lt hjn, List.getElem?_drop] at ha
              obtain ⟨y, hy, hva⟩ := hj _ _ ha
              refine ⟨y, ?_, hva⟩
              rw [Array.getElem?_extract]
              rw [if_pos (by omega)]; exact hy
          · cases h
        · split at h
          · rename_i a l hd
            cases h
            have ha : as[fd.offset]? = some a := by have := congrArg (·[0]?) hd; simpa using this
            obtain ⟨y, hy, hva⟩ := hj _ _ ha
            refine step_pure hR (v := y) ?_ hva
            simp [Instr.field, run_underlying' h5, hfd, asAgg, part, run_isAgg' hfd', hag, hy]
          · cases h
      · cases h
    · cases h
  · cases h
theorem max_ok (hR : Rep w0 M ρ ch w) {mx : Bool} {xs : List AV} {y : AV} (h : amax mx xs = some y) {vs : List Value} (hl : vs.length = xs.length) (hv : ∀ (j : Nat) (x : AV), xs[j]? = some x → ∃ v, vs[j]? = some v ∧ VAV w ρ ch x v) {p : Prop} (ts : Array TypeId) (ty : TypeId) :
    StepOk P w0 M ρ ch w (match mx with | true => Builtin.max_ ts ty vs.toArray | false => Builtin.min_ ts ty vs.toArray) ⟨p, y, [], []⟩ := by
  unfold amax at h
  split at h
  · rename_i x
    cases h
    match vs, hl with
    | [v], _ =>
      obtain ⟨v', h1, h2⟩ := hv 0 _ rfl
      simp at h1; subst h1
      cases mx <;> exact step_pure hR (v := v) (by simp [Builtin.max_, Builtin.min_]) h2
  · rename_i k a k' b
    cases h
    match vs, hl with
    | [v, v'], _ =>
      obtain ⟨x, h1, h2⟩ := hv 0 _ rfl
      obtain ⟨x', h1', h2'⟩ := hv 1 _ rfl
      simp at h1 h1'; subst h1 h1'
      have e1 := rdI h2; have e2 := rdI h2'; subst e1 e2
      cases mx
      · refine step_pure hR (v := .int k (min a b)) ?_ mkI
        simp [Builtin.min_, Builtin.min2]; split <;> omega
      · refine step_pure hR (v := .int k (max a b)) ?_ mkI
        simp [Builtin.max_, Builtin.max2]; split <;> omega
  · rename_i k a k' b k2 c
    cases h
    match vs, hl with
    | [v, v', v''], _ =>
      obtain ⟨x, h1, h2⟩ := hv 0 _ rfl
      obtain ⟨x', h1', h2'⟩ := hv 1 _ rfl
      obtain ⟨x'', h1'', h2''⟩ := hv 2 _ rfl
      simp at h1 h1' h1''; subst h1 h1' h1''
      have e1 := rdI h2; have e2 := rdI h2'; have e3 := rdI h2''; subst e1 e2 e3
      cases mx
      · refine step_pure hR (v := .int k (min (min a b) c)) ?_ mkI
        simp [Builtin.min_, Builtin.min2]; split <;> split <;> omega
      · refine step_pure hR (v := .int k (max (max a b) c)) ?_ mkI
        simp [Builtin.max_, Builtin.max2]; split <;> split <;> omega
  · cases h
end Go.VC
end
section
namespace Go.VC
open Go
variable {P : Program} {w0 w w' : World} {M : Nat → Prop} {ρ ρ' : Env} {ch ch' : List Chunk} {tt : TypeId → Option TI}
theorem rd_unflag {O : Nat → Prop} {d : D} {v : Value} (h : Rd w O d v) : Rd w O (unflag d) v := by
  cases d with
  | v x => exact h
  | sl nf wd es => exact h.flag
theorem freezeAll_fz {c : Nat} {nf : Option Bool} {wd : Nat} {es : List (List D)} (cs : List Nat) : ∀ {ch : List Chunk}, ch[c]? = some (.fz nf wd es) → (freezeAll ch cs)[c]? = some (.fz nf wd es) := by
  induction cs with
  | nil => exact fun h => h
  | cons c' cs ih =>
    intro ch h
    simp only [freezeAll]
    split
    · rename_i nf' wd' es' hg
      refine ih ?_
      rw [List.getElem?_set]
      split
      · rename_i he; subst he
        have := getD_some hg (by simp)
        rw [h] at this; cases this
      · exact h
    · exact ih h
theorem freezeAll_mem {c : Nat} {nf : Option Bool} {wd : Nat} {es : List (List D)} (cs : List Nat) : ∀ {ch : List Chunk}, ch[c]? = some (.sl nf wd es) → c ∈ cs → (freezeAll ch cs)[c]? = some (.fz nf wd es) := by
  induction cs with
  | nil => exact fun _ h => by simp at h
  | cons c' cs ih =>
    intro ch h hm
    simp only [freezeAll]
    by_cases hc : c' = c
    · subst hc
      have hg : ch.getD c' .dead = .sl nf wd es := by rw [List.getD_eq_getElem?_getD, h]; rfl
      rw [hg]
      refine freezeAll_fz cs ?_
      rw [List.getElem?_set, if_pos rfl, if_pos (List.getElem?_eq_some_iff.1 h).1]
    · have hm' : c ∈ cs := by
        rcases List.mem_cons.1 hm with h' | h'
        · exact absurd h'.symm hc
        · exact h'
      split
      · refine ih ?_ hm'
        rw [List.getElem?_set, if_neg hc]; exact h
      · exact ih h hm'
theorem toD_ok {a : A} {d : D} {cs fz : List Nat} (h : toD ch a = some (d, cs)) (hs : ∀ c ∈ cs, c ∈ fz) (hE : Ext w ρ ch w ρ (freezeAll ch fz)) {v : Value} (hv : VA w ρ ch a v) :
    Rd w (Own ρ (freezeAll ch fz)) d v := by
  unfold toD at h
  split at h
  · cases h
    exact rd_unflag (Rd.keep hE.keeps hv)
  · rename_i c
    split at h
    · rename_i nf wd es hg
      cases h
      have hc := getD_some hg (by simp)
      have hv' := VA.ext hE hv
      rw [VA, freezeAll_mem fz hc (hs c (by simp))] at hv'
      exact Rd.flag hv'
    · rename_i nf wd es hg
      cases h
      have hc := getD_some hg (by simp)
      have hv' := VA.ext hE hv
      rw [VA, freezeAll_fz fz hc] at hv'
      exact Rd.flag hv'
    · cases h
  · cases h
theorem toDs_ok {as : List A} : ∀ {ds : List D} {cs fz : List Nat}, toDs ch as = some (ds, cs) → (∀ c ∈ cs, c ∈ fz) → Ext w ρ ch w ρ (freezeAll ch fz) → ∀ {vs : Array Value}, VAs w ρ ch as vs →
    ds.length = as.length ∧ ∀ (j : Nat) (d : D), ds[j]? = some d → ∃ x, vs[j]? = some x ∧ Rd w (Own ρ (freezeAll ch fz)) d x := by
  induction as with
  | nil =>
    intro ds cs fz h _ _ vs _
    simp [toDs] at h
    obtain ⟨rfl, rfl⟩ := h
    exact ⟨rfl, by simp⟩
  | cons a as ih =>
    intro ds cs fz h hs hE vs hv
    simp only [toDs] at h
    split at h
    · rename_i d c1 h1
      split at h
      · rename_i ds' c2 h2
        cases h
        have hvt : VAs w ρ ch as (vs.extract 1 vs.size) := by
          have hs1 := hv.1
          simp at hs1
          refine ⟨by simp; omega, fun j b hb => ?_⟩
          obtain ⟨x, hx, hva⟩ := hv.2 (j + 1) b (by simpa using hb)
          refine ⟨x, ?_, hva⟩
          rw [Array.getElem?_extract]
          have := (List.getElem?_eq_some_iff.1 hb).1
          rw [if_pos (by omega), Nat.add_comm]; exact hx
        obtain ⟨hl, hj⟩ := ih h2 (fun c hc => hs c (by simp [hc])) hE hvt
        refine ⟨by simp [hl], fun j d' hd => ?_⟩
        cases j with
        | zero =>
          simp at hd; subst hd
          obtain ⟨x, hx, hva⟩ := hv.2 0 a rfl
          exact ⟨x, hx, toD_ok h1 (fun c hc => hs c (by simp [hc])) hE hva⟩
        | succ j =>
          simp at hd
          obtain ⟨x, hx, hr⟩ := hj j d' hd
          refine ⟨x, ?_, hr⟩
          rw [Array.getElem?_extract] at hx
          split at hx
          · rwa [Nat.add_comm] at hx
          · cases hx
      · cases h
    · cases h
theorem avDs_ok {x : AV} {ds : List D} {cs fz : List Nat} (h : avDs ch x = some (ds, cs)) (hs : ∀ c ∈ cs, c ∈ fz) (hE : Ext w ρ ch w ρ (freezeAll ch fz)) {v : Value} (hv : VAV w ρ ch x v) :
    v.cells.size = ds.length ∧ ∀ (j : Nat) (d : D), ds[j]? = some d → ∃ y, v.cells[j]? = some y ∧ Rd w (Own ρ (freezeAll ch fz)) d y := by
  cases x with
  | s a =>
    have hv' := avAs_ok (x := .s a) rfl hv
    obtain ⟨h1, h2⟩ := toDs_ok h hs hE hv'
    exact ⟨hv'.1.trans h1.symm, h2⟩
  | g as =>
    have hv' := avAs_ok (x := .g as) rfl hv
    obtain ⟨h1, h2⟩ := toDs_ok h hs hE hv'
    exact ⟨hv'.1.trans h1.symm, h2⟩
  | t xs => simp [avDs] at h
  | u => simp [avDs] at h
theorem fold_set (off : Nat) : ∀ (l : List Value) (k : Nat) (cs : Array Value), (l.zipIdx k).foldl (fun cs (p : Value × Nat) => cs.setIfInBounds (off + p.2) p.1) cs =
    (List.range' 0 l.length).foldl (fun cs i => cs.setIfInBounds (off + (k + i)) (l.getD i undef)) cs := by
  intro l
  induction l with
  | nil => intro k cs; rfl
  | cons v l ih =>
    intro k cs
    simp only [List.zipIdx_cons, List.foldl_cons, List.length_cons]
    rw [ih]
    have : List.range' 0 (l.length + 1) = 0 :: (List.range' 0 l.length).map (· + 1) := by
      rw [List.range'_succ]
      simp only [List.range'_eq_map_range, List.map_map]
      congr 1
      apply List.map_congr_left
      intro a _
      simp only [Function.comp]; omega
    rw [this, List.foldl_cons, List.foldl_map]
    simp only [Nat.add_zero, List.getD_cons_zero, List.getD_cons_succ]
    congr 1
    funext cs i
    rw [show k + 1 + i = k + (i + 1) by omega]
theorem sets_get (off : Nat) (l : List Value) : ∀ (n : Nat) (cs : Array Value), n ≤ l.length →
    ((List.range' 0 n).foldl (fun cs i => cs.setIfInBounds (off + i) (l.getD i undef)) cs).size = cs.size ∧
    ∀ (q : Nat), q < cs.size → ((List.range' 0 n).foldl (fun cs i => cs.setIfInBounds (off + i) (l.getD i undef)) cs)[q]? = if off ≤ q ∧ q < off + n then some (l.getD (q - off) undef) else cs[q]? := by
  intro n
  induction n with
  | zero => intro cs _; simp; intro q h1 h2 h3; omega
  | succ n ih =>
    intro cs hn
    obtain ⟨h1, h2⟩ := ih cs (by omega)
    rw [List.range'_1_concat, List.foldl_append, List.foldl_cons, List.foldl_nil]
    refine ⟨by rw [Array.size_setIfInBounds, h1], fun q hq => ?_⟩
    rw [Array.getElem?_setIfInBounds, h1, Nat.zero_add]
    by_cases hqo : off + n = q
    · subst hqo
      rw [if_pos rfl, if_pos hq, if_pos (by omega)]
      rw [show off + n - off = n by omega]
    · rw [if_neg hqo, h2 q hq]
      by_cases hin : off ≤ q ∧ q < off + n
      · rw [if_pos hin, if_pos (by omega)]
      · rw [if_neg hin, if_neg (by omega)]
theorem fill_fold (v : Value) (off : Nat) (cs : Array Value) : v.cells.zipIdx.foldl (fun cs (p : Value × Nat) => cs.setIfInBounds (off + p.2) p.1) cs =
    (List.range' 0 v.cells.size).foldl (fun cs i => cs.setIfInBounds (off + i) (v.cells.toList.getD i undef)) cs := by
  rw [← Array.foldl_toList, Array.toList_zipIdx]
  have := fold_set off v.cells.toList 0 cs
  simp only [Nat.zero_add, Array.length_toList] at this
  exact this
theorem setRange_get : ∀ (as : List A) (cells : List A) (off q : Nat), off + as.length ≤ cells.length →
    (setRange cells off as).length = cells.length ∧ (setRange cells off as)[q]? = if off ≤ q ∧ q < off + as.length then as[q - off]? else cells[q]? := by
  intro as
  induction as with
  | nil => intro cells off q _; refine ⟨rfl, ?_⟩; rw [if_neg (by simp; try omega)]; rfl
  | cons a as ih =>
    intro cells off q hl
    simp only [List.length_cons] at hl
    obtain ⟨h1, h2⟩ := ih (cells.set off a) (off + 1) q (by simp; omega)
    simp only [setRange]
    refine ⟨by simpa using h1, h2.trans ?_⟩
    by_cases hq : q = off
    · subst hq
      rw [if_neg (by omega), if_pos (by simp)]
      rw [List.getElem?_set, if_pos rfl, if_pos (by omega)]
      try simp
    · by_cases hin : off + 1 ≤ q ∧ q < off + 1 + as.length
      · rw [if_pos hin, if_pos (by simp; omega)]
        rw [show q - off = (q - (off + 1)) + 1 by omega]; simp
      · rw [if_neg hin, if_neg (by simp; omega), List.getElem?_set, if_neg (by omega)]
theorem fillA_ok {fs : List (Nat × Nat × Bool)} {fr : List AV} {e : Operand → Value} (he : ∀ x, VAV w ρ ch (aeval fr x) (e x)) {place : Nat → Option (Nat × Nat)}
    (hp : ∀ (i o n : Nat) (b : Bool), fs[i]? = some (o, n, b) → place i = some (o, n)) : ∀ (parts : List (Nat × Operand)) {cells cells' : List A} {cs : Array Value}, fillA fs cells fr parts = some cells' →
    VAs w ρ ch cells cs → (∀ (i o n : Nat) (b : Bool), fs[i]? = some (o, n, b) → o + n ≤ cells.length) →
    ∃ cs', Instr.fill place cs (parts.map fun p => (p.1, e p.2)) = some cs' ∧ VAs w ρ ch cells' cs' := by
  intro parts
  induction parts with
  | nil => intro cells cells' cs h hv _; cases h; exact ⟨cs, rfl, hv⟩
  | cons p parts ih =>
    obtain ⟨i, x⟩ := p
    intro cells cells' cs h hv hb
    simp only [fillA] at h
    split at h
    · rename_i off n ag hf
      split at h
      · rename_i as has
        split at h
        · rename_i hl
          have hx := avAs_ok has (he x)
          have hoff := hb i off n ag hf
          have hsz : cs.size = cells.length := hv.1
          have hn : (e x).cells.size = n := hx.1.trans hl
          have hset := fun q => setRange_get as cells off q (by omega)
          have hlen := (hset 0).1
          obtain ⟨cs', h1, h2⟩ := ih (cs := (e x).cells.zipIdx.foldl (fun cs (p : Value × Nat) => cs.setIfInBounds (off + p.2) p.1) cs) h (by
              rw [fill_fold]
              have hg := sets_get off (e x).cells.toList (e x).cells.size cs (by simp)
              refine ⟨hg.1.trans (hsz.trans hlen.symm), fun j a ha => ?_⟩
              have hj : j < cs.size := by have := (List.getElem?_eq_some_iff.1 ha).1; omega
              rw [(hset j).2] at ha
              rw [hg.2 j hj]
              by_cases hin : off ≤ j ∧ j < off + as.length
              · rw [if_pos hin] at ha
                rw [if_pos (by omega)]
                obtain ⟨y, hy, hva⟩ := hx.2 _ _ ha
                refine ⟨y, ?_, hva⟩
                rw [List.getD_eq_getElem?_getD, Array.getElem?_toList, hy]; rfl
              · rw [if_neg hin] at ha
                rw [if_neg (by omega)]
                exact hv.2 j a ha) (by rw [hlen]; exact hb)
          refine ⟨cs', ?_, h2⟩
          simp only [List.map_cons, Instr.fill, hp i off n ag hf]
          rw [if_neg (by simp [hn]; omega)]
          exact h1
        · cases h
      · cases h
    · cases h
theorem list_mapM_ok {α β : Type} {f : α → Sem β} {g : α → β} : ∀ (l : List α), (∀ x ∈ l, (f x).run P w = .ok (g x) w) → (l.mapM f).run P w = .ok (l.map g) w := by
  intro l
  induction l with
  | nil => intro _; simp
  | cons a l ih =>
    intro h
    simp [List.mapM_cons, h a (by simp), ih (fun x hx => h x (by simp [hx]))]
theorem array_mapM_ok {α β : Type} {f : α → Sem β} {g : α → β} (xs : Array α) (h : ∀ x ∈ xs.toList, (f x).run P w = .ok (g x) w) : (xs.mapM f).run P w = .ok (xs.map g) w := by
  rw [Array.mapM_eq_mapM_toList]
  simp only [Sem.run_map, list_mapM_ok xs.toList h, Result.andThen_ok]
  congr 1
  apply Array.ext'
  simp
theorem build_ok (hR : Rep w0 M ρ ch w) {fs : List (Nat × Nat × Bool)} {zs : List D} {t : TypeId} (ht : TIok P t (.st fs zs))
    {fr : List AV} {e : Operand → Value} (he : ∀ x, VAV w ρ ch (aeval fr x) (e x)) {parts : Array (Nat × Operand)} {cells : List A} (h : fillA fs (zs.map .d) fr parts.toList = some cells) {p : Prop} :
    StepOk P w0 M ρ ch w (Instr.build t (parts.map fun (i, x) => (i, e x))) ⟨p, .g cells, [], []⟩ := by
  obtain ⟨i, fields, z, h1, h2, h3, h4, h5, h6, h7⟩ := ht
  have hfit : ∀ (i o n : Nat) (b : Bool), fs[i]? = some (o, n, b) → o + n ≤ zs.length := by
    intro i o n b hi
    obtain ⟨fd, fi, d, _, _, _, _, _, _, _, hb⟩ := h7 i o n b hi
    exact hb
  let pl : Array (Nat × Nat) := fields.map fun f => (f.offset, P.cellsOf f.type)
  have hpl : (fields.mapM (fun f => do pure (f.offset, ← sizeOf f.type)) : Sem (Array (Nat × Nat))).run P w = .ok pl w := by
    refine array_mapM_ok fields (fun f hf => ?_)
    obtain ⟨j, hj⟩ := List.getElem?_of_mem hf
    have hj' : fields[j]? = some f := by simpa using hj
    have hjl : j < fs.length := by
      have := (Array.getElem?_eq_some_iff.1 hj').1; omega
    rcases hfe : fs[j] with ⟨o, n, b⟩
    obtain ⟨fd, fi, d, hfd, rfl, hfi, rfl, _⟩ := h7 j o n b (by rw [← hfe]; simp)
    rw [hj'] at hfd; cases hfd
    simp [run_sizeOf' hfi, Program.cellsOf, hfi]
  have hp : ∀ (i o n : Nat) (b : Bool), fs[i]? = some (o, n, b) → pl[i]? = some (o, n) := by
    intro i o n b hi
    obtain ⟨fd, fi, d, hfd, rfl, hfi, rfl, _⟩ := h7 i o n b hi
    simp [pl, hfd, Program.cellsOf, hfi]
  obtain ⟨cs', hf, hv⟩ := fillA_ok he hp parts.toList h (zrel_vas h4) (by simpa using hfit)
  refine step_pure hR (v := .agg cs') ?_ ⟨cs', rfl, hv.1, hv.2⟩
  have hmap : (parts.map fun x => (x.1, e x.2)).toList = parts.toList.map fun p => (p.1, e p.2) := by simp
  simp only [Instr.build, Sem.run_bind, run_zeroValue' h1 h3, Result.andThen_ok, run_underlying' h5, hpl, Value.cells]
  rw [hmap, hf]; rfl
def Row (w : World) (O : Nat → Prop) (wd : Nat) (es : List (List D)) (cs : Array Value) : Prop :=
  (∀ e ∈ es, e.length = wd) ∧ ∀ (i j : Nat) (d : D), getc es i j = some d → ∃ x, cs[i * wd + j]? = some x ∧ Rd w O d x
theorem Row.keep {O O' : Nat → Prop} {wd : Nat} {es : List (List D)} {cs : Array Value} (hk : Keeps w O w' O') (h : Row w O wd es cs) : Row w' O' wd es cs :=
  ⟨h.1, fun i j d hd => let ⟨x, hx, hr⟩ := h.2 i j d hd; ⟨x, hx, Rd.keep hk hr⟩⟩
theorem getc_lt {es : List (List D)} {i j : Nat} {d : D} (h : getc es i j = some d) : ∃ e, es[i]? = some e ∧ e[j]? = some d := by
  unfold getc at h
  cases he : es[i]? with
  | none => simp [he] at h
  | some e => exact ⟨e, rfl, by simpa [he] using h⟩
theorem row_zero {O : Nat → Prop} {zs : List D} {z : Array Value} {n wd : Nat} (hz : ZRel zs z) (hl : zs.length = wd) (cs : Array Value) (hcs : ∀ q, q < n * wd → cs[q]? = some z[q % z.size]!) :
    Row w O wd (List.replicate n (zs.map unflag)) cs := by
  refine ⟨fun e he => by rw [List.eq_of_mem_replicate he]; simpa using hl, fun i j d hd => ?_⟩
  obtain ⟨e, he, hj⟩ := getc_lt hd
  have hi : i < n := by
    have := (List.getElem?_eq_some_iff.1 he).1
    simpa using this
  have : e = zs.map unflag := List.eq_of_mem_replicate (List.mem_of_getElem? he)
  subst this
  rw [List.getElem?_map] at hj
  cases hzj : zs[j]? with
  | none => simp [hzj] at hj
  | some d0 =>
    simp [hzj] at hj; subst hj
    obtain ⟨x, hx, _, hr⟩ := hz.rd (w := w) (O := O) hzj
    have hjw : j < wd := by
      have := (List.getElem?_eq_some_iff.1 hzj).1; omega
    have hzs : z.size = wd := hz.1.trans hl
    have hlt : i * wd + j < n * wd := by
      have : (i + 1) * wd ≤ n * wd := Nat.mul_le_mul_right wd hi
      rw [Nat.add_mul] at this; omega
    refine ⟨x, ?_, hr⟩
    rw [hcs _ hlt, hzs]
    have hmod : (i * wd + j) % wd = j := by
      rw [Nat.add_comm, Nat.add_mul_mod_self_right, Nat.mod_eq_of_lt hjw]
    rw [hmod]
    have : z[j]! = x := by
      have h2 := (Array.getElem?_eq_some_iff.1 hx)
      obtain ⟨h3, h4⟩ := h2
      rw [getElem!_pos z j h3, h4]
    rw [this]
theorem fillD_ok {wd : Nat} {fr : List AV} {e : Operand → Value} (he : ∀ x, VAV w ρ ch (aeval fr x) (e x)) : ∀ (parts : List (Nat × Operand)) {es es' : List (List D)} {fz0 fz : List Nat} {cs : Array Value},
    fillD ch wd es fz0 fr parts = some (es', fz) → Ext w ρ ch w ρ (freezeAll ch fz) → (Row w (Own ρ (freezeAll ch fz)) wd es cs) → cs.size = es.length * wd →
    ∃ cs', Instr.fill (fun i => some (i * wd, wd)) cs (parts.map fun p => (p.1, e p.2)) = some cs' ∧ Row w (Own ρ (freezeAll ch fz)) wd es' cs' ∧ cs'.size = es'.length * wd ∧ es'.length = es.length ∧ (∀ c ∈ fz0, c ∈ fz) := by
  intro parts
  induction parts with
  | nil => intro es es' fz0 fz cs h _ hv hs; cases h; exact ⟨cs, rfl, hv, hs, rfl, fun _ h => h⟩
  | cons p parts ih =>
    obtain ⟨i, x⟩ := p
    intro es es' fz0 fz cs h hE hv hs
    simp only [fillD] at h
    split at h
    · rename_i ds c1 hds
      split at h
      · rename_i hl
        obtain ⟨hl, hi⟩ := hl
        have hsub : ∀ {ps : List (Nat × Operand)} {a b : List (List D)} {f0 f1 : List Nat}, fillD ch wd a f0 fr ps = some (b, f1) → ∀ c ∈ f0, c ∈ f1 := by
          intro ps
          induction ps with
          | nil => intro a b f0 f1 h c hc; cases h; exact hc
          | cons q ps ihp =>
            intro a b f0 f1 h c hc
            simp only [fillD] at h
            split at h
            · split at h
              · exact ihp h c (by simp [hc])
              · cases h
            · cases h
        have hfz := hsub h
        obtain ⟨hxs, hxr⟩ := avDs_ok hds (fun c hc => hfz c (by simp [hc])) hE (he x)
        have hn : (e x).cells.size = wd := hxs.trans hl
        have hbound : i * wd + wd ≤ es.length * wd := by
          have : (i + 1) * wd ≤ es.length * wd := Nat.mul_le_mul_right wd hi
          rw [Nat.add_mul] at this; omega
        have hg := sets_get (i * wd) (e x).cells.toList (e x).cells.size cs (by simp)
        obtain ⟨cs', h1, h2, h3, h4, _⟩ := ih (cs := (e x).cells.zipIdx.foldl (fun cs (p : Value × Nat) => cs.setIfInBounds (i * wd + p.2) p.1) cs) h hE (by
            rw [fill_fold]
            refine ⟨fun e' he' => ?_, fun i' j d hd => ?_⟩
            · rcases List.mem_or_eq_of_mem_set he' with h' | h'
              · exact hv.1 e' h'
              · rw [h']; exact hl
            · obtain ⟨e', he', hj⟩ := getc_lt hd
              have hi' : i' < es.length := by
                have := (List.getElem?_eq_some_iff.1 he').1
                simpa using this
              have hj' : j < wd := by
                have h5 := (List.getElem?_eq_some_iff.1 hj).1
                have : e'.length = wd := by
                  rcases List.mem_or_eq_of_mem_set (List.mem_of_getElem? he') with h' | h'
                  · exact hv.1 e' h'
                  · rw [h']; exact hl
                omega
              have hb' : i' * wd + j < cs.size := by
                have : (i' + 1) * wd ≤ es.length * wd := Nat.mul_le_mul_right wd hi'
                rw [Nat.add_mul] at this; omega
              rw [hg.2 _ hb']
              by_cases hii : i' = i
              · subst hii
                rw [if_pos (by omega)]
                rw [List.getElem?_set, if_pos rfl, if_pos hi] at he'
                cases he'
                obtain ⟨y, hy, hr⟩ := hxr j d hj
                refine ⟨y, ?_, hr⟩
                rw [show i' * wd + j - i' * wd = j by omega, List.getD_eq_getElem?_getD, Array.getElem?_toList, hy]; rfl
              · rw [List.getElem?_set, if_neg (fun h => hii h.symm)] at he'
                have hne : ¬ (i * wd ≤ i' * wd + j ∧ i' * wd + j < i * wd + (e x).cells.size) := by
                  rw [hn]
                  rcases Nat.lt_or_gt_of_ne hii with h' | h'
                  · have : (i' + 1) * wd ≤ i * wd := Nat.mul_le_mul_right wd h'
                    rw [Nat.add_mul] at this; omega
                  · have : (i + 1) * wd ≤ i' * wd := Nat.mul_le_mul_right wd h'
                    rw [Nat.add_mul] at this; omega
                rw [if_neg hne]
                exact hv.2 i' j d (getc_some he' hj)) (by rw [fill_fold, hg.1]; simpa using hs)
        refine ⟨cs', ?_, h2, h3, h4.trans (by simp), fun c hc => hfz c (by simp [hc])⟩
        simp only [List.map_cons, Instr.fill]
        rw [if_neg (by simp [hn]; omega)]
        exact h1
      · cases h
    · cases h
theorem owned_new {wd : Nat} {es : List (List D)} {cs : Array Value} {t : TypeId} {fr : Nat × Nat} {cap : Nat} (nf : Option Bool) (hn : nf ≠ some true) {b : Nat} (hb : w.heap[b]? = some (.cells cs t fr)) (hu : Unfrozen cs.size fr)
    (hs : cs.size = cap * wd) (hl : es.length ≤ cap) (hrow : Row w (Own ρ ch) wd es cs) : ChunkRep w ρ ch (some b) (.sl nf wd es) :=
  ⟨hrow.1, .inr ⟨b, cs, t, fr, cap, rfl, hn, hb, hu, hs, hl, hrow.2⟩⟩
theorem newSl_ok (hR : Rep w0 M ρ ch w) {s : Sem Value} {p : Prop} {fz : List Nat} {wd : Nat} {es : List (List D)} {cs : Array Value} {t : TypeId} {fr : Nat × Nat} {cap : Nat}
    (hrun : s.run P w = .ok (.slice (some ⟨w.heap.size, 0, none⟩) es.length cap) w') (hg : WOk w (fun _ => False) w') (hb : w'.heap[w.heap.size]? = some (.cells cs t fr)) (hu : Unfrozen cs.size fr)
    (hs : cs.size = cap * wd) (hl : es.length ≤ cap) (hrow : Row w (Own ρ (freezeAll ch fz)) wd es cs) : StepOk P w0 M ρ ch w s ⟨p, .s (.own ch.length), fz, [.sl (some false) wd es]⟩ := by
  obtain ⟨h1, h2⟩ := freezeAll_rep fz hR
  have hlen := freezeAll_length fz ch
  have hE := push_ext (ρ := ρ) (ch := freezeAll ch fz) hg (k := .sl (some false) wd es) (r := some w.heap.size) (by simp)
  rw [hlen] at hE
  have hP := push_rep h1 hg (k := .sl (some false) wd es) (r := some w.heap.size) (by simp) (by
    rw [hlen]
    exact owned_new _ (by simp) hb hu hs hl (hrow.keep hE.keeps))
  rw [hlen] at hP
  refine ⟨_, w', upd ρ ch.length (some w.heap.size), hrun, hP, ?_, h2.trans hE (Nat.le_refl _)⟩
  have hget : (freezeAll ch fz ++ [Chunk.sl (some false) wd es])[ch.length]? = some (.sl (some false) wd es) := by
    rw [← hlen]; simp
  simp only [VAV, VA, FRes.ch, hget]
  exact .inr ⟨w.heap.size, cap, cs, t, fr, by simp [upd], rfl, hb, hs, hl⟩
theorem buildSlice_ok (hR : Rep w0 M ρ ch w) {wd by_ : Nat} {ag : Bool} {zs : List D} {t : TypeId} (ht : TIok P t (.sl wd by_ ag zs)) {n : Nat} {fr : List AV} {e : Operand → Value} (he : ∀ x, VAV w ρ ch (aeval fr x) (e x))
    {parts : Array (Nat × Operand)} {es : List (List D)} {fz : List Nat} (h : fillD ch wd (List.replicate n (zs.map unflag)) [] fr parts.toList = some (es, fz)) (ho : n * wd ≤ 16777216) {p : Prop} :
    StepOk P w0 M ρ ch w (Instr.buildSlice t n (parts.map fun (i, x) => (i, e x))) ⟨p, .s (.own ch.length), fz, [.sl (some false) wd es]⟩ := by
  obtain ⟨i, el, ie, z, d, h1, h2, h3, h4, h5, h6, h7, h8, h9, h10, _⟩ := ht
  obtain ⟨hR1, hE⟩ := freezeAll_rep fz hR
  have hmap : (parts.map fun x => (x.1, e x.2)).toList = parts.toList.map fun p => (p.1, e p.2) := by simp
  have hzs : z.cells.size = wd := h9.1.trans h10
  obtain ⟨cs', hf, hrow, hsz, hlen, _⟩ := fillD_ok he parts.toList (cs := (Array.range (n * wd)).map (fun q => (if n * wd = 0 then #[] else z.cells)[q % (if n * wd = 0 then #[] else z.cells).size]!)) h hE (by
      refine row_zero h9 h10 _ (fun q hq => ?_)
      have h0 : ¬ n * wd = 0 := by omega
      simp only [if_neg h0]
      simp [hq]) (by simp)
  simp only [List.length_replicate] at hlen
  refine newSl_ok hR (cs := cs') (t := el) (fr := (0, 0)) (cap := n) (w' := w.alloc (.cells cs' el)) ?_ (wok_push w _) (heap_alloc_new w _) (.inl (Nat.le_refl _)) (by rw [hsz, hlen]) (by omega) hrow
  rw [hlen]
  have hno : ¬ (n * wd > 2 ^ 24) := by omega
  simp only [Instr.buildSlice, Sem.run_bind, run_underlying' h4, Result.andThen_ok, run_sizeOf' h5, h6, hno, if_false]
  by_cases h0 : n * wd = 0
  · simp only [h0, if_true] at hf ⊢
    simp only [pure_bind, hmap, hf]
    simp [newRow]
  · simp only [h0, if_false] at hf ⊢
    simp only [Sem.run_bind, run_zeroValue' h5 h8, Result.andThen_ok, pure_bind, hmap, hf]
    simp [newRow]
end Go.VC
end
section
namespace Go.VC
open Go
variable {P : Program} {w0 w w' : World} {M : Nat → Prop} {ρ ρ' : Env} {ch ch' : List Chunk} {tt : TypeId → Option TI}
theorem intOfAV_ok {x : AV} {n : Int} (h : intOfAV x = some n) {v : Value} (hv : VAV w ρ ch x v) : ∃ k, v = .int k n := by
  unfold intOfAV at h
  split at h
  · cases h; exact ⟨_, rdI hv⟩
  · cases h
theorem makeSlice_ok (hR : Rep w0 M ρ ch w) {wd by_ : Nat} {ag : Bool} {zs : List D} {t : TypeId} (ht : TIok P t (.sl wd by_ ag zs)) {x y : AV} {n m : Int} (hx : intOfAV x = some n) (hy : intOfAV y = some m) {vx vy : Value}
    (hvx : VAV w ρ ch x vx) (hvy : VAV w ρ ch y vy) (ho : 0 ≤ n ∧ n ≤ m ∧ by_ * m ≤ 140737488355328 ∧ m ≤ 140737488355328) {p : Prop} :
    StepOk P w0 M ρ ch w (Instr.makeSlice t vx vy) ⟨p, .s (.own ch.length), [], [.sl (some false) wd (List.replicate n.toNat (zs.map unflag))]⟩ := by
  obtain ⟨i, el, ie, z, d, h1, h2, h3, h4, h5, h6, h7, h8, h9, h10, _⟩ := ht
  obtain ⟨k, rfl⟩ := intOfAV_ok hx hvx
  obtain ⟨k', rfl⟩ := intOfAV_ok hy hvy
  obtain ⟨o1, o2, o3, o4⟩ := ho
  have w1 : IntKind.i64.wrap n = n := wrap_in ⟨by omega, by omega⟩
  have w2 : IntKind.i64.wrap m = m := wrap_in ⟨by omega, by omega⟩
  obtain ⟨m', rfl⟩ := Int.eq_ofNat_of_zero_le (show 0 ≤ m by omega)
  obtain ⟨n', rfl⟩ := Int.eq_ofNat_of_zero_le o1
  have hb : ¬ (ie.bytes * (m' : Int) > 2 ^ 48) := by rw [h7]; omega
  have hr : ¬ (m' * ie.bytes > roomBytes) := by
    have h8 : ((by_ * m' : Nat) : Int) ≤ 140737488355328 := by rw [Int.natCast_mul]; exact o3
    rw [h7, Nat.mul_comm]; unfold roomBytes; omega
  have hzs : z.cells.size = wd := h9.1.trans h10
  have hrow : Row w (Own ρ (freezeAll ch [])) wd (List.replicate n' (zs.map unflag)) ((Array.range (m' * wd)).map (fun q => (if m' * wd = 0 then #[] else z.cells)[q % (if m' * wd = 0 then #[] else z.cells).size]!)) := by
    refine row_zero h9 h10 _ (fun q hq => ?_)
    have hle : n' * wd ≤ m' * wd := Nat.mul_le_mul_right wd (by omega)
    have h0 : ¬ m' * wd = 0 := by omega
    simp only [if_neg h0]
    have : q < m' * wd := by omega
    simp [this]
  refine newSl_ok hR (cs := (Array.range (m' * wd)).map (fun q => (if m' * wd = 0 then #[] else z.cells)[q % (if m' * wd = 0 then #[] else z.cells).size]!)) (t := el) (fr := (0, 0)) (cap := m')
    (w' := w.alloc (.cells ((Array.range (m' * wd)).map (fun q => (if m' * wd = 0 then #[] else z.cells)[q % (if m' * wd = 0 then #[] else z.cells).size]!)) el)) ?_ (wok_push w _) (heap_alloc_new w _) (.inl (Nat.le_refl _)) (by simp) (by simp; omega) (by simpa using hrow)
  have hn0 : ¬ ((n' : Int) < 0) := by omega
  have hm0 : ¬ ((m' : Int) < 0) := by omega
  have hnm : ¬ ((n' : Int) > (m' : Int)) := by omega
  have hcond : ((decide ((m' : Int) < 0) || decide (ie.bytes * (m' : Int) > 2 ^ 48)) || decide ((n' : Int) < 0) || decide ((n' : Int) > (m' : Int))) = false := by
    simp only [hm0, hb, hn0, hnm, decide_false, Bool.or_false]
  simp only [Instr.makeSlice, Sem.run_bind, run_underlying' h4, Result.andThen_ok, asInt, asIntOf, pure_bind, run_typeInfo' h5, w1, w2, Int.toNat_natCast, hcond, askRoom, hr, if_false]
  simp only [Bool.false_eq_true, if_false, Sem.run_bind, run_sizeOf' h5, Result.andThen_ok, h6]
  by_cases h0 : m' * wd = 0
  · simp only [h0, if_true]
    simp [newRow]
  · simp only [h0, if_false, Sem.run_bind, run_zeroValue' h5 h8, Result.andThen_ok]
    simp [newRow]
theorem optInt_ok {fr : List AV} {e : Operand → Value} (he : ∀ x, VAV w ρ ch (aeval fr x) (e x)) {dflt n : Int} {x : Option Operand} (h : optInt fr dflt x = some n) :
    (x = none ∧ n = dflt) ∨ ∃ y k, x = some y ∧ e y = .int k n := by
  cases x with
  | none => cases h; exact .inl ⟨rfl, rfl⟩
  | some y =>
    obtain ⟨k, hk⟩ := intOfAV_ok h (he y)
    exact .inr ⟨y, k, rfl, hk⟩
theorem sliceBounds_run {e : Operand → Value} {len cap : Nat} {lo hi : Option Operand} {l h : Int} (b : Bool) (hlo : (lo = none ∧ l = 0) ∨ ∃ y k, lo = some y ∧ e y = .int k l) (hhi : (hi = none ∧ h = len) ∨ ∃ y k, hi = some y ∧ e y = .int k h)
    (h0 : 0 ≤ l) (h1 : l ≤ h) (h2 : h ≤ len) (h3 : len ≤ cap) : (Instr.sliceBounds b len cap (lo.map e) (hi.map e) none).run P w = .ok (l.toNat, h.toNat, cap) w := by
  have hc : h ≤ (cap : Int) := by omega
  have hh : 0 ≤ h := by omega
  have hlh : l ≤ (h.toNat : Int) := by omega
  have hlc : l ≤ (len : Int) := by omega
  rcases hlo with ⟨rfl, rfl⟩ | ⟨y, k, rfl, hy⟩ <;> rcases hhi with ⟨rfl, rfl⟩ | ⟨z, k', rfl, hz⟩
  · simp [Instr.sliceBounds]
  · simp [Instr.sliceBounds, Instr.sliceBound, hz, asIntOf, hc, hh]
  · simp [Instr.sliceBounds, Instr.sliceBound, hy, asIntOf, h0, hlc]
  · simp [Instr.sliceBounds, Instr.sliceBound, hy, hz, asIntOf, hc, hh, h0]
    intro hx; omega
theorem take_drop_get {α : Type} (l : List α) (lo hi i : Nat) : ((l.take hi).drop lo)[i]? = if lo + i < hi then l[lo + i]? else none := by
  rw [List.getElem?_drop]
  split
  · rw [List.getElem?_take_of_lt (by assumption)]
  · rw [List.getElem?_take_eq_none (by omega)]
theorem rd_slice {O : Nat → Prop} {nf : Option Bool} {wd : Nat} {es : List (List D)} {v : Value} (h : Rd w O (.sl nf wd es) v) {lo hi : Nat} (h1 : lo ≤ hi) (h2 : hi ≤ es.length) {size : Nat} (hs : es ≠ [] → size = wd) :
    ∃ a c, v = .slice a es.length c ∧ es.length ≤ c ∧ Rd w O (.sl none wd ((es.take hi).drop lo)) (.slice (if c = lo then a else a.map (·.add (lo * size))) (hi - lo) (c - lo)) := by
  cases h with
  | nil =>
    refine ⟨none, 0, rfl, Nat.le_refl _, ?_⟩
    simp at h2; subst h2
    have : lo = 0 := by omega
    subst this
    simpa using Rd.nil none wd (by simp)
  | sl _ _ _ b off cap f hn hl hw hc hr =>
    refine ⟨some ⟨b, off, none⟩, cap, rfl, hl, ?_⟩
    have hlen : ((es.take hi).drop lo).length = hi - lo := by simp; omega
    have key : ∀ off', (hi - lo = 0 ∨ off' = off + lo * wd) → Rd w O (.sl none wd ((es.take hi).drop lo)) (.slice (some ⟨b, off', none⟩) (hi - lo) (cap - lo)) := by
      intro off' hoff
      have := Rd.sl (w := w) (O := O) none wd ((es.take hi).drop lo) b off' (cap - lo) (fun i j => f (lo + i) j) (by simp) (by omega)
        (fun e he => hw e (List.mem_of_mem_take (List.mem_of_mem_drop he)))
        (fun i j d hd => by
          obtain ⟨e, he, hj⟩ := getc_lt hd
          rw [take_drop_get] at he
          split at he
          · rename_i hlt
            obtain ⟨hO, hcell⟩ := hc (lo + i) j d (getc_some he hj)
            refine ⟨hO, ?_⟩
            rcases hoff with h0 | rfl
            · omega
            · rw [← hcell]; congr 2; rw [Nat.add_mul]; omega
          · cases he)
        (fun i j d hd => by
          obtain ⟨e, he, hj⟩ := getc_lt hd
          rw [take_drop_get] at he
          split at he
          · exact hr (lo + i) j d (getc_some he hj)
          · cases he)
      rw [hlen] at this
      exact this
    by_cases hcl : cap = lo
    · rw [if_pos hcl]
      exact key off (.inl (by omega))
    · rw [if_neg hcl]
      simp only [Option.map_some, addr_add]
      by_cases he : es = []
      · subst he
        exact key _ (.inl (by simp at h2; omega))
      · rw [hs he]
        exact key _ (.inr rfl)
theorem str_slice_ok (hR : Rep w0 M ρ ch w) {fr : List AV} {e : Operand → Value} (he : ∀ x, VAV w ρ ch (aeval fr x) (e x)) {b : ByteArray} {lo hi : Option Operand} {r : FRes}
    (h : aslice ch fr 0 (.s (.d (.v (.string b)))) lo hi = some r) (ho : r.obl) {t : TypeId} (ht : P.underlying t = some .string) {v : Value} (hv : VAV w ρ ch (.s (.d (.v (.string b)))) v) :
    StepOk P w0 M ρ ch w (Instr.sliceAt t v (lo.map e) (hi.map e) none) r := by
  have e1 := rdS hv; subst e1
  simp only [aslice] at h
  split at h
  · rename_i l hl
    split at h
    · rename_i hh hhi
      cases h
      obtain ⟨o1, o2, o3⟩ := (ho : 0 ≤ l ∧ l ≤ hh ∧ hh ≤ b.data.toList.length)
      rw [len_data] at o3 hhi
      have hb := sliceBounds_run (P := P) (w := w) (len := b.size) (cap := b.size) false (optInt_ok he hl) (optInt_ok he hhi) o1 o2 o3 (Nat.le_refl _)
      refine step_pure hR (v := .string (b.extract l.toNat hh.toNat)) ?_ (mkS ?_)
      · simp [Instr.sliceAt, Instr.slice, run_underlying' ht, hb]
      · simp [List.drop_take]
    · cases h
  · cases h
theorem sliceAt_slice {e : Operand → Value} {lo hi : Option Operand} {l h len c : Nat} {a : Option Addr} {t el : TypeId} {ie : TypeInfo} (h4 : P.underlying t = some (.slice el)) (h5 : P.info? el = some ie)
    (hb : (Instr.sliceBounds true len c (lo.map e) (hi.map e) none).run P w = .ok (l, h, c) w) :
    (Instr.sliceAt t (.slice a len c) (lo.map e) (hi.map e) none).run P w = .ok (.slice (if c = l then a else a.map (·.add (l * ie.size))) (h - l) (c - l)) w := by
  simp [Instr.sliceAt, Instr.slice, run_underlying' h4, hb, run_sizeOf' h5]
theorem slice_ok (hR : Rep w0 M ρ ch w) {fr : List AV} {e : Operand → Value} (he : ∀ x, VAV w ρ ch (aeval fr x) (e x)) {x : AV} {lo hi : Option Operand} {r : FRes} {wd by_ : Nat} {ag : Bool} {zs : List D} {t : TypeId}
    (ht : TIok P t (.sl wd by_ ag zs)) (h : aslice ch fr wd x lo hi = some r) (ho : r.obl) (hns : ∀ b, x ≠ .s (.d (.v (.string b)))) {v : Value} (hv : VAV w ρ ch x v) :
    StepOk P w0 M ρ ch w (Instr.sliceAt t v (lo.map e) (hi.map e) none) r := by
  obtain ⟨i, el, ie, z, d, h1, h2, h3, h4, h5, h6, h7, h8, h9, h10, _⟩ := ht
  unfold aslice at h
  split at h
  · rename_i b; exact absurd rfl (hns b)
  · rename_i nf wd' es
    split at h
    · rename_i hwd; subst hwd
      split at h
      · rename_i l hl
        split at h
        · rename_i hh hhi
          cases h
          obtain ⟨o1, o2, o3⟩ := (ho : 0 ≤ l ∧ l ≤ hh ∧ hh ≤ es.length)
          obtain ⟨a, c, rfl, hc, hrd⟩ := rd_slice (lo := l.toNat) (hi := hh.toNat) (size := ie.size) hv (by omega) (by omega) (fun _ => h6)
          have hb := sliceBounds_run (P := P) (w := w) (len := es.length) (cap := c) true (optInt_ok he hl) (optInt_ok he hhi) o1 o2 o3 hc
          exact step_pure hR (sliceAt_slice h4 h5 hb) hrd
        · cases h
      · cases h
    · cases h
  · rename_i c
    split at h
    · rename_i nf wd' es hg
      have hc := getD_some hg (by simp)
      split at h
      · rename_i hwd; subst hwd
        split at h
        · rename_i l hl
          split at h
          · rename_i hh hhi
            cases h
            obtain ⟨o1, o2, o3⟩ := (ho : 0 ≤ l ∧ l ≤ hh ∧ hh ≤ es.length)
            have hrd := freeze_rd hR hc hv keeps_freeze
            obtain ⟨a, c', rfl, hc', hrd'⟩ := rd_slice (lo := l.toNat) (hi := hh.toNat) (size := ie.size) hrd (by omega) (by omega) (fun _ => h6)
            have hb := sliceBounds_run (P := P) (w := w) (len := es.length) (cap := c') true (optInt_ok he hl) (optInt_ok he hhi) o1 o2 o3 hc'
            refine step_freeze hR (sliceAt_slice h4 h5 hb) ?_
            have : freezeAll ch [c] = ch.set c (.fz nf wd es) := by simp only [freezeAll, hg]
            rw [this]
            exact hrd'
          · cases h
        · cases h
      · cases h
    · cases h
  · cases h
theorem all_bytes {es : List (List D)} (h : allBytes es) : ∃ ns : List Int, es = ns.map fun n => [.v (.int .u8 n)] := by
  induction es with
  | nil => exact ⟨[], rfl⟩
  | cons e es ih =>
    obtain ⟨n, rfl⟩ := h e (by simp)
    obtain ⟨ns, hns⟩ := ih (fun e he => h e (by simp [he]))
    exact ⟨n :: ns, by rw [hns]; rfl⟩
theorem fold_push : ∀ (ns : List Int) (s : ByteArray), (ns.foldl (fun r n => r.push (UInt8.ofNat n.toNat)) s).data.toList = s.data.toList ++ ns.map fun n => UInt8.ofNat n.toNat := by
  intro ns
  induction ns with
  | nil => intro s; simp
  | cons n ns ih => intro s; simp only [List.foldl_cons, ih]; simp
theorem bytesOf_map (ns : List Int) : bytesOf (ns.map fun n => [D.v (.int .u8 n)]) = ns.map fun n => UInt8.ofNat n.toNat := by
  simp [bytesOf]
theorem bytes_string_ok {O : Nat → Prop} {nf : Option Bool} {es : List (List D)} {v : Value} (h : Rd w O (.sl nf 1 es) v) (hb : allBytes es) {s d e : TypeId}
    (hs : P.underlying s = some (.slice e)) (he : P.underlying e = some (.int .u8)) (hd : P.underlying d = some .string) :
    ∃ b : ByteArray, (convert s d v).run P w = .ok (.string b) w ∧ b.data.toList = bytesOf es := by
  obtain ⟨ns, hes⟩ := all_bytes hb
  cases h with
  | nil =>
    refine ⟨.empty, ?_, by simp [bytesOf]⟩
    rw [run_convert_bytes_string w s d e _ _ _ hs he hd]; simp [Conv.bytesToString]
  | sl _ _ _ b off cap f hn hl hw hc hr =>
    subst hes
    refine ⟨ns.foldl (fun r n => r.push (UInt8.ofNat n.toNat)) ByteArray.empty, ?_, by rw [fold_push, bytesOf_map]; simp⟩
    rw [run_convert_bytes_string w s d e _ _ _ hs he hd, List.length_map]
    refine run_bytesToString w _ _ _ ns ?_
    have := run_loadCells_list (P := P) w ⟨b, off, none⟩ (ns.map (Value.int .u8)) (fun j v hv => by
      rw [List.getElem?_map] at hv
      cases hj : ns[j]? with
      | none => simp [hj] at hv
      | some n =>
        simp [hj] at hv; subst hv
        have hg : getc (ns.map fun n => [D.v (.int .u8 n)]) j 0 = some (.v (.int .u8 n)) := by simp [getc, hj]
        obtain ⟨_, hcell⟩ := hc j 0 _ hg
        have := rdI (hr j 0 _ hg)
        rw [addr_add]
        rw [show off + (j * 1 + 0) = off + j by omega] at hcell
        rw [hcell, this])
    rw [List.length_map] at this
    exact this
theorem mark_run {b : Nat} {cs : Array Value} {t : TypeId} (h : w.heap[b]? = some (.cells cs t (0, 0))) :
    (markStringish ⟨b, 0, none⟩).run P w = .ok () (w.freeze ⟨b, cs.size, none⟩ 1) := by
  simp [markStringish, shape, World.shape?, h, freeze, Sem.run]
theorem wok_freeze (w : World) {b n : Nat} (B : Nat) (hB : B ≤ b) (w1 : World) (h : WOk w1 (fun _ => False) w) (hs : w1.heap.size = B) : WOk w1 (fun _ => False) (w.freeze ⟨b, n, none⟩ 1) := by
  refine ⟨h.os, h.tape, h.output, by simpa [World.freeze] using h.size, fun c hc _ => ?_⟩
  rw [← h.block c hc id]
  simp only [World.freeze]
  rw [if_neg (by decide)]
  simp only [Array.getElem?_modify]
  rw [if_neg (by omega)]
theorem string_bytes_ok (hR : Rep w0 M ρ ch w) {b : ByteArray} {s d e : TypeId} (hs : P.underlying s = some .string) (hd : P.underlying d = some (.slice e)) (he : P.underlying e = some (.int .u8)) {p : Prop} :
    StepOk P w0 M ρ ch w (convert s d (.string b)) ⟨p, .s (.own ch.length), [], [.sl (some false) 1 (encB b.data.toList)]⟩ := by
  let cap : Nat := b.size + (w.tape w.drawn (.appendCap b.size 0 e)) % (2 ^ 63 - b.size)
  let cs : Array Value := (b.data.map fun x => Value.int .u8 x.toNat) ++ Array.replicate (cap - b.size) (.int .u8 0)
  have hcs : cs.size = cap := by
    simp only [cs, Array.size_append, Array.size_map, Array.size_replicate]
    have : b.data.size = b.size := rfl
    have : b.size ≤ cap := Nat.le_add_right _ _
    omega
  let w1 : World := w.drew.alloc (.cells cs e)
  have hnew : w1.heap[w.heap.size]? = some (.cells cs e (0, 0)) := heap_alloc_new w.drew _
  have hfr : (w1.freeze ⟨w.heap.size, cs.size, none⟩ 1).heap[w.heap.size]? = some (.cells cs e (cs.size, cs.size + 1)) := by
    simp only [World.freeze]
    rw [if_neg (by decide)]
    simp only [Array.getElem?_modify, hnew]
    simp
  refine newSl_ok hR (cs := cs) (t := e) (fr := (cs.size, cs.size + 1)) (cap := cap) (w' := w1.freeze ⟨w.heap.size, cs.size, none⟩ 1) ?_ ?_ hfr (.inr (Nat.le_refl _)) (by simp [hcs]) ?_ ?_
  · have hm := mark_run (P := P) hnew
    have hlen : (encB b.data.toList).length = b.size := by simp only [encB, List.length_map]; rfl
    rw [hlen]
    simp only [convert, Sem.run_bind, run_underlying' hs, run_underlying' hd, run_underlying' he, Result.andThen_ok, Conv.stringToBytes, choose, Sem.run, Question.forced, Question.cut, newRow, newObj]
    have hE : (Array.map (fun b => Value.int IntKind.u8 b.toNat) b.data ++ Array.replicate (w.tape w.drawn (Question.appendCap b.size 0 e) % (9223372036854775808 - b.size)) (Value.int IntKind.u8 0)) = cs := by simp [cs, cap]
    simp
    rw [hE]
    change (Sem.run P (markStringish ⟨w.heap.size, 0, none⟩) w1).andThen _ = _
    rw [hm]; rfl
  · exact wok_freeze w1 w.heap.size (Nat.le_refl _) w ⟨rfl, rfl, rfl, by simp [w1], fun c hc _ => heap_alloc_old w.drew _ c hc⟩ rfl
  · simp only [encB, List.length_map]
    have : b.data.toList.length = b.size := rfl
    have : b.size ≤ cap := Nat.le_add_right _ _
    omega
  · refine ⟨fun x hx => by simp only [encB, List.mem_map] at hx; obtain ⟨y, _, rfl⟩ := hx; rfl, fun i j d hd => ?_⟩
    obtain ⟨x, hx, hj⟩ := getc_lt hd
    simp only [encB, List.getElem?_map] at hx
    cases hy : b.data.toList[i]? with
    | none => simp [hy] at hx
    | some y =>
      simp [hy] at hx; subst hx
      cases j with
      | zero =>
        simp at hj; subst hj
        refine ⟨.int .u8 y.toNat, ?_, .v _ rfl⟩
        have hi : i < b.data.size := by
          have := (List.getElem?_eq_some_iff.1 hy).1
          simpa using this
        rw [show i * 1 + 0 = i by omega]
        simp only [cs]
        rw [Array.getElem?_append_left (by simpa using hi), Array.getElem?_map]
        have : b.data[i]? = some y := by simpa using hy
        rw [this]; rfl
      | succ j => simp at hj
theorem TIok.under {t : TypeId} {ti : TI} (h : TIok P t ti) : ∃ d, P.underlying t = some d := by
  cases ti with
  | one z => obtain ⟨_, _, d, _, _, _, _, _, h, _⟩ := h; exact ⟨d, h⟩
  | sl wd by_ ag zs => obtain ⟨_, _, _, _, _, _, _, _, h, _⟩ := h; exact ⟨_, h⟩
  | st fs zs => obtain ⟨_, _, _, _, _, _, _, h, _⟩ := h; exact ⟨_, h⟩
theorem aconvert_ok (hR : Rep w0 M ρ ch w) (hT : TOk P tt) {s d : TypeId} {x : AV} {r : FRes} (h : aconvert ch (tt s) (tt d) x = some r) (ho : r.obl) {v : Value} (hv : VAV w ρ ch x v) : StepOk P w0 M ρ ch w (convert s d v) r := by
  unfold aconvert at h
  split at h
  · rename_i ts k k0 k1 n hts htd
    have hs := (hT _ _ hts).under
    have ht := hT _ _ htd
    obtain ⟨i, x, dd, h1, h2, h3, h4, h5, h6, h7, h8⟩ := ht
    cases h4
    simp only [descOf] at h8; subst h8
    have e1 := rdI hv; subst e1
    cases h
    obtain ⟨ds, hds⟩ := hs
    exact step_pure hR (v := .int _ _) (by simp [convert, run_underlying' hds, run_underlying' h6, Conv.intToInt]) mkI
  · rename_i b1 a1 n1 s1 nf es hts htd
    obtain ⟨i, el, ie, z, dd, h1, h2, h3, h4, h5, h6, h7, h8, h9, h10, h11, h12, h13⟩ := hT _ _ hts
    have h13' := h13 _ rfl
    simp only [descOf] at h13'; subst h13'
    obtain ⟨i', x', dd', g1, g2, g3, g4, g5, g6, g7, g8⟩ := hT _ _ htd
    cases g4
    simp only [descOf] at g8; subst g8
    cases h
    obtain ⟨b, hb, hbs⟩ := bytes_string_ok (P := P) hv ho h4 h11 g6
    exact step_pure hR hb (mkS hbs)
  · rename_i b1 a1 n1 s1 c hts htd
    obtain ⟨i, el, ie, z, dd, h1, h2, h3, h4, h5, h6, h7, h8, h9, h10, h11, h12, h13⟩ := hT _ _ hts
    have h13' := h13 _ rfl
    simp only [descOf] at h13'; subst h13'
    obtain ⟨i', x', dd', g1, g2, g3, g4, g5, g6, g7, g8⟩ := hT _ _ htd
    cases g4
    simp only [descOf] at g8; subst g8
    split at h
    · rename_i nf es hg
      have hc := getD_some hg (by simp)
      cases h
      have hrd := freeze_rd hR hc hv keeps_freeze
      obtain ⟨b, hb, hbs⟩ := bytes_string_ok (P := P) hrd ho h4 h11 g6
      exact step_pure hR hb (mkS hbs)
    · cases h
  · rename_i s1 b1 a1 n1 b hts htd
    obtain ⟨i, el, ie, z, dd, h1, h2, h3, h4, h5, h6, h7, h8, h9, h10, h11, h12, h13⟩ := hT _ _ htd
    have h13' := h13 _ rfl
    simp only [descOf] at h13'; subst h13'
    obtain ⟨i', x', dd', g1, g2, g3, g4, g5, g6, g7, g8⟩ := hT _ _ hts
    cases g4
    simp only [descOf] at g8; subst g8
    have e1 := rdS hv; subst e1
    cases h
    exact string_bytes_ok hR g6 h4 h11
  · cases h
theorem capsOf_ok {fr : List AV} {e : Operand → Value} (he : ∀ x, VAV w ρ ch (aeval fr x) (e x)) : ∀ (xs : List Operand) {cs : List Nat}, capsOf fr xs = some cs →
    (∀ c ∈ cs, c < ch.length) ∧ ∃ bs : List Nat, bs.length = cs.length ∧ (∀ (i c : Nat), cs[i]? = some c → ρ c = bs[i]?) ∧ xs.map e = bs.map fun b => Value.pointer (some ⟨b, 0, none⟩) := by
  intro xs
  induction xs with
  | nil => intro cs h; cases h; exact ⟨by simp, [], rfl, by simp, rfl⟩
  | cons x xs ih =>
    intro cs h
    simp only [capsOf] at h
    split at h
    · rename_i c hx
      split at h
      · rename_i cs' hcs
        cases h
        obtain ⟨h1, bs, h2, h3, h4⟩ := ih hcs
        have hv := he x
        rw [hx] at hv
        obtain ⟨hlt, b, hb, hv⟩ := hv
        refine ⟨by simpa using ⟨hlt, h1⟩, b :: bs, by simp [h2], fun i c' hi => ?_, by simp [hv, h4]⟩
        cases i with
        | zero => simp at hi; subst hi; simpa using hb
        | succ i => simpa using h3 i c' (by simpa using hi)
      · cases h
    · cases h
theorem makeFunc_ok (hR : Rep w0 M ρ ch w) {fr : List AV} {e : Operand → Value} (he : ∀ x, VAV w ρ ch (aeval fr x) (e x)) {f : FuncId} {caps : Array Operand} {cs : List Nat} (h : capsOf fr caps.toList = some cs) {p : Prop} :
    StepOk P w0 M ρ ch w (Instr.makeFunc (.func f) #[] (caps.map e)) ⟨p, .s (.fn f cs), [], []⟩ := by
  obtain ⟨h1, bs, h2, h3, h4⟩ := capsOf_ok he caps.toList h
  have : caps.map e = (bs.map fun b => Value.pointer (some ⟨b, 0, none⟩)).toArray := by
    apply Array.ext'
    simpa using h4
  rw [this]
  exact step_pure hR (v := .func (.func f) #[] _) (by simp [Instr.makeFunc]) ⟨h1, bs, h2, h3, rfl⟩
end Go.VC
end
section
namespace Go.VC
open Go
variable {P : Program} {w0 w w' : World} {M : Nat → Prop} {ρ ρ' : Env} {ch ch' : List Chunk} {tt : TypeId → Option TI}
theorem isStr_ok (hT : TOk P tt) {t : TypeId} (h : isStr (tt t) = true) : P.underlying t = some .string := by
  unfold isStr at h
  split at h
  · rename_i b ht
    obtain ⟨i, x, d, h1, h2, h3, h4, h5, h6, h7, h8⟩ := hT _ _ ht
    cases h4; simp only [descOf] at h8; rw [h6, h8]
  · cases h
theorem isBool_ok (hT : TOk P tt) {t : TypeId} (h : isBool (tt t) = true) : P.underlying t = some .bool := by
  unfold isBool at h
  split at h
  · rename_i b ht
    obtain ⟨i, x, d, h1, h2, h3, h4, h5, h6, h7, h8⟩ := hT _ _ ht
    cases h4; simp only [descOf] at h8; rw [h6, h8]
  · cases h
theorem isSl_ok (hT : TOk P tt) {t : TypeId} (h : isSl (tt t) = true) : ∃ e, P.underlying t = some (.slice e) := by
  unfold isSl at h
  split at h
  · rename_i wd by_ ag zs ht
    obtain ⟨i, e, ie, z, d, h1, h2, h3, h4, _⟩ := hT _ _ ht
    exact ⟨e, h4⟩
  · cases h
theorem binTT_ok (hT : TOk P tt) {t : TypeId} {op : BinOp} {x : AV} (h : binTT (tt t) op x = true) : binT P op t x := by
  unfold binTT at h
  split at h
  · have := isBool_ok hT h
    unfold binT; split <;> simp_all
  · have := isSl_ok hT h
    unfold binT; split <;> simp_all
  · rename_i h1 h2
    unfold binT
    split
    · exact absurd rfl (h1 _)
    · exact absurd rfl (h1 _)
    · exact absurd rfl (h2 _ _ _)
    · exact absurd rfl (h2 _ _ _)
    · trivial
def Runs (P : Program) (o : Oper) (a : Act) (s : Sem Value) : Prop := ∀ w, (execOp a.eval o).run P w = (do pure (Next.value (← s)) : Sem Next).run P w
theorem bool_run {fr : List AV} {a : Act} (hF : VF w ρ ch fr a.tmps) {c : Operand} {x : Bool} (h : aeval fr c = .s (.d (.v (.bool x)))) : a.eval c = .bool x := by
  have := aeval_ok hF c
  rw [h] at this
  exact rdB this
theorem bif_VAV {x : Bool} {p q : AV} {v u : Value} (hp : x = true → VAV w ρ ch p v) (hq : x = false → VAV w ρ ch q u) : VAV w ρ ch (bif x then p else q) (if x then v else u) := by
  cases x
  · exact hq rfl
  · exact hp rfl
def notG : Value → Bool
  | .int .. | .string _ | .bool _ | .slice .. => true
  | _ => false
theorem abin_left {wr : Bool} {op : BinOp} {x y : AV} {r : FRes} (h : abin wr op x y = some r) {v : Value} (hv : VAV w ρ ch x v) : notG v = true := by
  unfold abin at h
  split at h <;> first
    | (have := rdI hv; subst this; rfl)
    | (have := rdS hv; subst this; rfl)
    | (have := rdB hv; subst this; rfl)
    | (obtain ⟨a, n, c, rfl, _⟩ := rdSl hv; rfl)
    | contradiction
theorem eqGuard_run {op : BinOp} {t : TypeId} {x y : Operand} {va vb : Value} (h : notG va = true) : (eqGuard op t x y va vb).run P w = .ok () w := by
  unfold eqGuard
  cases va <;> simp [notG] at h <;> cases op <;> simp
theorem fstep_ok (hT : TOk P tt) (hR : Rep w0 M ρ ch w) {fr : List AV} {a : Act} (hF : VF w ρ ch fr a.tmps) {wr : Bool} {o : Oper} {r : FRes} (h : fstep tt wr fr ch o.op = some r) (ho : r.obl) :
    ∃ s, Runs P o a s ∧ StepOk P w0 M ρ ch w s r := by
  have he := aeval_ok hF
  obtain ⟨dst, op, ty, pos, after, guard⟩ := o
  simp only at h
  cases op <;> simp only [fstep] at h <;> try contradiction
  case move x => cases h; exact ⟨pure (a.eval x), fun w => by simp [execOp], step_pure hR (by simp) (he x)⟩
  case assign x => cases h; exact ⟨pure (a.eval x), fun w => by simp [execOp], step_pure hR (by simp) (he x)⟩
  case pick c x y =>
    split at h
    · rename_i b hb
      cases h
      have hc := bool_run hF hb
      exact ⟨pure (if b then a.eval x else a.eval y), fun w => by simp [execOp, hc, asBool], step_pure hR (by simp) (bif_VAV (fun _ => he x) (fun _ => he y))⟩
    · cases h
  case alloc t =>
    split at h
    · rename_i ti ht
      cases h
      exact ⟨_, fun w => by simp [execOp], alloc_ok hR (hT _ _ ht)⟩
    · cases h
  case box t x =>
    split at h
    · rename_i as has
      cases h
      exact ⟨_, fun w => by simp [execOp], box_ok hR has (he x) t⟩
    · cases h
  case build t parts =>
    split at h
    · rename_i fs zs ht
      split at h
      · rename_i cells hc
        cases h
        exact ⟨_, fun w => by simp [execOp], build_ok hR (hT _ _ ht) he hc⟩
      · cases h
    · cases h
  case buildSlice t n parts =>
    split at h
    · rename_i wd by_ ag zs ht
      split at h
      · rename_i es fz hc
        cases h
        exact ⟨_, fun w => by simp [execOp], buildSlice_ok hR (hT _ _ ht) he hc ho⟩
      · cases h
    · cases h
  case load t x =>
    split at h
    · rename_i ti ht
      exact ⟨_, fun w => by simp [execOp], aload_ok hR (hT _ _ ht) h (he x)⟩
    · cases h
  case nilCheck x =>
    have hv := he x
    split at h
    · rename_i c off hx
      cases h
      rw [hx] at hv
      obtain ⟨hlt, b, hb, hv⟩ := hv
      exact ⟨pure (a.eval x), fun w => by simp [execOp, hv], step_pure hR (by simp) ⟨hlt, b, hb, hv⟩⟩
    · rename_i c i off hx
      split at h
      · rename_i nf wd es hg
        cases h
        rw [hx] at hv
        have hc := getD_some hg (by simp)
        have hv0 := hv
        simp only [VAV, VA, hc] at hv
        obtain ⟨hi, b, hb, hv⟩ := hv
        exact ⟨pure (a.eval x), fun w => by simp [execOp, hv], step_pure hR (by simp) hv0⟩
      · cases h
    · rename_i cells hx
      cases h
      rw [hx] at hv
      obtain ⟨b, off, hv', hc⟩ := hv
      exact ⟨pure (a.eval x), fun w => by simp [execOp, hv'], step_pure hR (by simp) ⟨b, off, hv', hc⟩⟩
    · cases h
  case binOp op t x y t' =>
    split at h
    · rename_i hb
      have hg := eqGuard_run (P := P) (w := w) (op := op) (t := t) (x := x) (y := y) (vb := a.eval y) (abin_left h (he x))
      obtain ⟨v, w', ρ', hrun, rest⟩ := abin_ok hR h ho t (binTT_ok hT hb) (he x) (he y)
      exact ⟨do eqGuard op t x y (a.eval x) (a.eval y); binOp op t (a.eval x) (a.eval y), fun w => by simp [execOp], v, w', ρ', by simp [hg, hrun], rest⟩
    · cases h
  case unOp op t x => exact ⟨_, fun w => by simp [execOp], aun_ok hR h ho (he x)⟩
  case convert s d x => exact ⟨_, fun w => by simp [execOp], aconvert_ok hR hT h ho (he x)⟩
  case makeFunc fn first caps =>
    cases fn <;> simp only at h <;> try contradiction
    rename_i f
    split at h
    · rename_i cs hf hc
      cases h
      have hf' : first = #[] := by
        apply Array.ext'; simpa using hf
      subst hf'
      exact ⟨_, fun w => by simp [execOp], makeFunc_ok hR he hc⟩
    · cases h
  case makeSlice t l c =>
    split at h
    · rename_i wd by_ ag zs ht
      split at h
      · rename_i n m hn hm
        cases h
        exact ⟨_, fun w => by simp [execOp], makeSlice_ok hR (hT _ _ ht) hn hm (he l) (he c) ho⟩
      · cases h
    · cases h
  case slice t x lo hi mx =>
    cases mx <;> simp only at h <;> try contradiction
    split at h
    · rename_i b hb
      split at h
      · rename_i hs
        have hv := he x
        rw [hb] at hv
        exact ⟨_, fun w => by simp [execOp], str_slice_ok hR he h ho (isStr_ok hT hs) hv⟩
      · cases h
    · rename_i y hns
      split at h
      · rename_i w1 by_ ag zs ht
        exact ⟨_, fun w => by simp [execOp], slice_ok hR he (hT _ _ ht) h ho hns (he x)⟩
      · cases h
  case fieldAddr t x f =>
    cases ht : tt t with
    | none => simp [ht, afieldAddr] at h
    | some ti =>
      rw [ht] at h
      exact ⟨_, fun w => by simp [execOp], fieldAddr_ok hR (hT _ _ ht) h (he x)⟩
  case field t x f =>
    cases ht : tt t with
    | none => simp [ht, afield] at h
    | some ti =>
      rw [ht] at h
      exact ⟨_, fun w => by simp [execOp], field_ok hR (hT _ _ ht) h (he x)⟩
  case indexAddr t x i =>
    cases ht : tt t with
    | none => simp [ht, aindexAddr] at h
    | some ti =>
      rw [ht] at h
      exact ⟨_, fun w => by simp [execOp], indexAddr_ok hR (hT _ _ ht) h ho (he x) (he i)⟩
  case index t x i =>
    split at h
    · rename_i hs
      exact ⟨_, fun w => by simp [execOp], index_ok hR h ho (he x) (he i) (isStr_ok hT hs)⟩
    · cases h
  case extract x i =>
    split at h
    · rename_i xs hx
      have hv := he x
      split at h
      · rename_i y hy
        cases h
        exact ⟨_, fun w => by simp [execOp], extract_ok hR hx hy (by simp) hv⟩
      · rename_i y hy
        cases h
        exact ⟨_, fun w => by simp [execOp], extract_ok hR hx hy (by simp) hv⟩
      · cases h
    · cases h
  case call c =>
    obtain ⟨callee, args, argTypes⟩ := c
    cases callee <;> simp only at h <;> try contradiction
    rename_i b
    cases b <;> simp only at h <;> try contradiction
    case len =>
      split at h
      · rename_i x t hx ht
        have hx' : args = #[x] := by apply Array.ext'; simpa using hx
        have ht' : argTypes = #[t] := by apply Array.ext'; simpa using ht
        subst hx' ht'
        split at h
        · rename_i b hb
          split at h
          · rename_i hs
            have hv := he x
            rw [hb] at hv
            exact ⟨Builtin.len_ #[t] ty #[a.eval x], fun w => by simp [execOp, resolve, invoke, builtin], len_ok hR h hv (isStr_ok hT hs) rfl⟩
          · cases h
        · rename_i y hns
          split at h
          · rename_i hs
            obtain ⟨e, hd⟩ := isSl_ok hT hs
            refine ⟨Builtin.len_ #[t] ty #[a.eval x], fun w => by simp [execOp, resolve, invoke, builtin], len_ok hR h (he x) hd ?_⟩
            unfold lenD
            split
            · rename_i b hb; exact absurd hb (hns b)
            · exact ⟨e, rfl⟩
          · cases h
      · cases h
    case max =>
      split at h
      · rename_i y hy
        cases h
        refine ⟨_, fun w => by simp [execOp, resolve, invoke, builtin]; rfl, ?_⟩
        have := max_ok (P := P) hR hy (vs := args.toList.map a.eval) (by simp) (fun j x hj => by
          rw [List.getElem?_map] at hj
          cases hq : args.toList[j]? with
          | none => rw [hq] at hj; cases hj
          | some q => rw [hq] at hj; simp at hj; subst hj; exact ⟨a.eval q, by rw [List.getElem?_map, hq]; rfl, he q⟩) argTypes ty (p := True)
        have e1 : (List.map a.eval args.toList).toArray = args.map a.eval := by apply Array.ext'; simp
        rw [e1] at this
        exact this
      · cases h
    case min =>
      split at h
      · rename_i y hy
        cases h
        refine ⟨_, fun w => by simp [execOp, resolve, invoke, builtin]; rfl, ?_⟩
        have := max_ok (P := P) hR hy (vs := args.toList.map a.eval) (by simp) (fun j x hj => by
          rw [List.getElem?_map] at hj
          cases hq : args.toList[j]? with
          | none => rw [hq] at hj; cases hj
          | some q => rw [hq] at hj; simp at hj; subst hj; exact ⟨a.eval q, by rw [List.getElem?_map, hq]; rfl, he q⟩) argTypes ty (p := True)
        have e1 : (List.map a.eval args.toList).toArray = args.map a.eval := by apply Array.ext'; simp
        rw [e1] at this
        exact this
      · cases h
end Go.VC
end
section
namespace Go.VC
open Go
variable {P : Program} {w0 w w' : World} {M : Nat → Prop} {ρ ρ' : Env} {ch ch' : List Chunk} {tt : TypeId → Option TI}
def patch : List D → Nat → List D → List D
  | e, _, [] => e
  | e, off, d :: ds => patch (e.set off d) (off + 1) ds
def setE (es : List (List D)) (i off wd : Nat) (ds : List D) : List (List D) :=
  if ds.length = wd then es.set i ds else es.set i (patch (es.getD i []) off ds)
def astore (ch : List Chunk) (n : Nat) (addr val : AV) : Option (List Chunk) :=
  match addr with
  | .s (.ptr c off) => match ch.getD c .dead with
    | .box cells => match avAs val with
      | some as => if as.length = n ∧ off + n ≤ cells.length then some (ch.set c (.box (setRange cells off as))) else none
      | none => none
    | _ => none
  | .s (.eptr c i off) => match avDs ch val with
    | some (ds, fz) => match (freezeAll ch fz).getD c .dead with
      | .sl nf wd es => if ds.length = n ∧ off + n ≤ wd ∧ (ds.length = wd → off = 0) then some ((freezeAll ch fz).set c (.sl nf wd (setE es i off wd ds))) else none
      | _ => none
    | none => none
  | _ => none
def setsL (cur : Array Value) (k : Nat) : List Value → Array Value
  | [] => cur
  | v :: vs => setsL (cur.setIfInBounds k v) (k + 1) vs
theorem setsL_get : ∀ (vs : List Value) (cur : Array Value) (k q : Nat), k + vs.length ≤ cur.size →
    (setsL cur k vs).size = cur.size ∧ (setsL cur k vs)[q]? = if k ≤ q ∧ q < k + vs.length then vs[q - k]? else cur[q]? := by
  intro vs
  induction vs with
  | nil => intro cur k q _; refine ⟨rfl, ?_⟩; rw [if_neg (by simp; try omega)]; rfl
  | cons v vs ih =>
    intro cur k q hl
    simp only [List.length_cons] at hl
    obtain ⟨h1, h2⟩ := ih (cur.setIfInBounds k v) (k + 1) q (by simp; omega)
    simp only [setsL]
    refine ⟨by simpa using h1, h2.trans ?_⟩
    by_cases hq : q = k
    · subst hq
      rw [if_neg (by omega), if_pos (by simp)]
      rw [Array.getElem?_setIfInBounds, if_pos rfl, if_pos (by omega)]
      try simp
    · by_cases hin : k + 1 ≤ q ∧ q < k + 1 + vs.length
      · rw [if_pos hin, if_pos (by simp; omega)]
        rw [show q - k = (q - (k + 1)) + 1 by omega]; simp
      · rw [if_neg hin, if_neg (by simp; omega), Array.getElem?_setIfInBounds, if_neg (by omega)]
structure Wrote (w : World) (b : Nat) (w' : World) : Prop where
  os : w'.os = w.os
  tape : w'.tape = w.tape
  output : w'.output = w.output
  size : w'.heap.size = w.heap.size
  block : ∀ c, c ≠ b → w'.heap[c]? = w.heap[c]?
theorem store_run {b o : Nat} {t : TypeId} {fr : Nat × Nat} : ∀ (vs : List Value) (i : Nat) (cur : Array Value) (w : World), w.heap[b]? = some (.cells cur t fr) → Unfrozen cur.size fr → o + i + vs.length ≤ cur.size →
    (∀ v ∈ vs, one1 v = true) → ∃ w', (storeCells ⟨b, o, none⟩ vs i).run P w = .ok () w' ∧ w'.heap[b]? = some (.cells (setsL cur (o + i) vs) t fr) ∧ Wrote w b w' := by
  intro vs
  induction vs with
  | nil => intro i cur w h _ _ _; exact ⟨w, by simp [storeCells], h, rfl, rfl, rfl, rfl, fun _ _ => rfl⟩
  | cons v vs ih =>
    intro i cur w h hu hl h1
    simp only [List.length_cons] at hl
    have hcell : w.cell? ⟨b, o + i, none⟩ = some (cur[o + i]'(by omega)) := by simp [World.cell?, h]
    have hfz : w.frozen? ⟨b, o + i, none⟩ = false := by
      simp only [World.frozen?, h]
      rcases hu with hu | hu <;> simp <;> omega
    have hv := h1 v (by simp)
    have hrun : (store ⟨b, o + i, none⟩ v).run P w = .ok () (w.setCell ⟨b, o + i, none⟩ v) := by
      cases v <;> simp [one1] at hv <;> simp [store, Sem.run, hcell, hfz]
    have hset : (w.setCell ⟨b, o + i, none⟩ v).heap[b]? = some (.cells (cur.setIfInBounds (o + i) v) t fr) := by
      simp [World.setCell, Array.getElem?_modify, h]
    obtain ⟨w', h2, h3, h4⟩ := ih (i + 1) (cur.setIfInBounds (o + i) v) (w.setCell ⟨b, o + i, none⟩ v) hset (by simpa [Unfrozen] using hu) (by simp; omega) (fun u hu => h1 u (by simp [hu]))
    refine ⟨w', ?_, h3, h4.os, h4.tape, h4.output, h4.size.trans (by simp), fun c hc => (h4.block c hc).trans ?_⟩
    · simp only [storeCells, addr_add, Sem.run_bind, hrun, Result.andThen_ok]
      exact h2
    · simp only [World.setCell, Array.getElem?_modify]
      rw [if_neg (fun e => hc e.symm)]
theorem VAs.one1 {as : List A} {cs : Array Value} (h : VAs w ρ ch as cs) : ∀ v ∈ cs.toList, one1 v = true := by
  intro v hv
  obtain ⟨j, hj⟩ := List.getElem?_of_mem hv
  have hj' : cs[j]? = some v := by simpa using hj
  have hlt : j < as.length := by
    have := (Array.getElem?_eq_some_iff.1 hj').1
    have := h.1; omega
  obtain ⟨x, hx, ha⟩ := h.2 j as[j] (by simp)
  rw [hj'] at hx; cases hx
  exact VA.oneCell ha
theorem write_ext (hR : Rep w0 M ρ ch w) {c b : Nat} (hb : ρ c = some b) {k k' : Chunk} (hc : ch[c]? = some k) (ho : k.isOwn = true) (hw : Wrote w b w')
    (ht : Turns w ρ ch w' ρ (ch.set c k') c k k') : Ext w ρ ch w' ρ (ch.set c k') := by
  have hlt := (List.getElem?_eq_some_iff.1 hc).1
  refine ⟨fun x hx hO => ?_, fun _ _ => rfl, rfl, fun c' x hx => ?_⟩
  · have hne : x ≠ b := fun e => hO (.inr ⟨c, k, hc, ho, e ▸ hb⟩)
    refine ⟨hw.block x hne, fun h => hO ?_⟩
    rcases h with h | h
    · exact .inl h
    · obtain ⟨c', y, hy, hoy, hr⟩ := h
      rw [List.getElem?_set] at hy
      split at hy
      · rename_i e; subst e
        exact .inr ⟨c, k, hc, ho, hr⟩
      · exact .inr ⟨c', y, hy, hoy, hr⟩
  · by_cases he : c' = c
    · subst he
      rw [hc] at hx; cases hx
      exact ⟨k', by rw [List.getElem?_set, if_pos rfl, if_pos hlt], ht⟩
    · refine ⟨x, by rw [List.getElem?_set, if_neg (fun e => he e.symm)]; exact hx, ?_⟩
      cases x with
      | box => simp [Turns]
      | dead => simp [Turns]
      | fz => simp [Turns]
      | sl n d e =>
        refine ⟨rfl, rfl, fun b' cur t fr hb' hh => ⟨cur, t, fr, ?_, rfl⟩⟩
        have : b' ≠ b := fun e' => he (hR.inj c' c _ _ b' hx hc rfl ho hb' (e' ▸ hb))
        exact (hw.block b' this).trans hh
theorem write_rep (hR : Rep w0 M ρ ch w) {c b : Nat} (hb : ρ c = some b) {k k' : Chunk} (hc : ch[c]? = some k) (ho : k.isOwn = true) (hw : Wrote w b w')
    (hE : Ext w ρ ch w' ρ (ch.set c k')) (hk : ChunkRep w' ρ (ch.set c k') (some b) k') : Rep w0 M ρ (ch.set c k') w' := by
  have hlt := (List.getElem?_eq_some_iff.1 hc).1
  have get : ∀ {c' : Nat} {x : Chunk}, (ch.set c k')[c']? = some x → (c' = c ∧ x = k') ∨ (c' ≠ c ∧ ch[c']? = some x) := by
    intro c' x hx
    rw [List.getElem?_set] at hx
    split at hx
    · rename_i e; subst e
      first | (cases hx; exact .inl ⟨rfl, rfl⟩) | (rw [if_pos hlt] at hx; cases hx; exact .inl ⟨rfl, rfl⟩)
    · rename_i e; exact .inr ⟨fun e' => e e'.symm, hx⟩
  have own : ∀ {c' : Nat} {x : Chunk}, (ch.set c k')[c']? = some x → x.isOwn = true → ∃ y, ch[c']? = some y ∧ y.isOwn = true := by
    intro c' x hx hox
    rcases get hx with ⟨rfl, rfl⟩ | ⟨_, h⟩
    · exact ⟨k, hc, ho⟩
    · exact ⟨x, h, hox⟩
  have hMb : w0.heap.size ≤ b ∨ M b := hR.new c k b hc ho hb
  refine ⟨⟨hw.os.trans hR.wok.os, hw.tape.trans hR.wok.tape, hw.output.trans hR.wok.output, hw.size ▸ hR.wok.size, fun x hx hm => ?_⟩, fun c' x hx => ?_, fun c1 c2 x y b' h1 h2 h3 h4 h5 h6 => ?_, fun c1 x b' h1 h2 h3 => ?_, hR.far⟩
  · have : x ≠ b := by
      rintro rfl
      rcases hMb with h | h
      · omega
      · exact hm h
    exact (hw.block x this).trans (hR.wok.block x hx hm)
  · rcases get hx with ⟨rfl, rfl⟩ | ⟨hne, h⟩
    · rw [hb]; exact hk
    · refine ChunkRep.ext hE (fun hox b' hb' => hw.block b' ?_) (hR.chunk c' x h)
      rintro rfl
      exact hne (hR.inj c' c x k b' h hc hox ho hb' hb)
  · obtain ⟨x', g1, g2⟩ := own h1 h3
    obtain ⟨y', g3, g4⟩ := own h2 h4
    exact hR.inj c1 c2 x' y' b' g1 g3 g2 g4 h5 h6
  · obtain ⟨x', g1, g2⟩ := own h1 h2
    exact hR.new c1 x' b' g1 g2 h3
theorem patch_get : ∀ (ds e : List D) (off q : Nat), off + ds.length ≤ e.length →
    (patch e off ds).length = e.length ∧ (patch e off ds)[q]? = if off ≤ q ∧ q < off + ds.length then ds[q - off]? else e[q]? := by
  intro ds
  induction ds with
  | nil => intro e off q _; refine ⟨rfl, ?_⟩; rw [if_neg (by simp; try omega)]; rfl
  | cons d ds ih =>
    intro e off q hl
    simp only [List.length_cons] at hl
    obtain ⟨h1, h2⟩ := ih (e.set off d) (off + 1) q (by simp; omega)
    simp only [patch]
    refine ⟨by simpa using h1, h2.trans ?_⟩
    by_cases hq : q = off
    · subst hq
      rw [if_neg (by omega), if_pos (by simp)]
      rw [List.getElem?_set, if_pos rfl, if_pos (by omega)]
      try simp
    · by_cases hin : off + 1 ≤ q ∧ q < off + 1 + ds.length
      · rw [if_pos hin, if_pos (by simp; omega)]
        rw [show q - off = (q - (off + 1)) + 1 by omega]; simp
      · rw [if_neg hin, if_neg (by simp; omega), List.getElem?_set, if_neg (by omega)]
theorem setE_get {es : List (List D)} {i off wd : Nat} {ds : List D} (hw : ∀ e ∈ es, e.length = wd) (hi : i < es.length) (hl : off + ds.length ≤ wd) (h0 : ds.length = wd → off = 0) :
    (setE es i off wd ds).length = es.length ∧ (∀ e ∈ setE es i off wd ds, e.length = wd) ∧
    ∀ i' j d, getc (setE es i off wd ds) i' j = some d → j < wd ∧ i' < es.length ∧ if i' = i ∧ off ≤ j ∧ j < off + ds.length then ds[j - off]? = some d else getc es i' j = some d := by
  have hei : es[i].length = wd := hw _ (List.getElem_mem hi)
  have key : ∃ e', setE es i off wd ds = es.set i e' ∧ e'.length = wd ∧ ∀ j : Nat, e'[j]? = if off ≤ j ∧ j < off + ds.length then ds[j - off]? else (es[i])[j]? := by
    unfold setE
    split
    · rename_i h
      refine ⟨ds, rfl, h, fun j => ?_⟩
      have := h0 h; subst this
      by_cases hj : j < ds.length
      · rw [if_pos (by omega)]; simp
      · rw [if_neg (by omega), List.getElem?_eq_none (by omega), List.getElem?_eq_none (by omega)]
    · have hg : es.getD i [] = es[i] := by simp [hi]
      rw [hg]
      have hp := patch_get ds es[i] off 0 (by omega)
      exact ⟨_, rfl, hp.1.trans hei, fun j => (patch_get ds es[i] off j (by omega)).2⟩
  obtain ⟨e', he', hl', hj'⟩ := key
  rw [he']
  refine ⟨by simp, fun e he => ?_, fun i' j d hd => ?_⟩
  · rcases List.mem_or_eq_of_mem_set he with h | h
    · exact hw e h
    · rw [h]; exact hl'
  · obtain ⟨e, he, hj⟩ := getc_lt hd
    have hi' : i' < es.length := by
      have := (List.getElem?_eq_some_iff.1 he).1
      simpa using this
    by_cases hii : i' = i
    · subst hii
      rw [List.getElem?_set, if_pos rfl, if_pos hi] at he
      cases he
      have hjl : j < wd := by
        have := (List.getElem?_eq_some_iff.1 hj).1; omega
      refine ⟨hjl, hi, ?_⟩
      rw [hj' j] at hj
      by_cases hin : off ≤ j ∧ j < off + ds.length
      · rw [if_pos ⟨rfl, hin⟩]; rwa [if_pos hin] at hj
      · rw [if_neg (fun h => hin h.2)]; rw [if_neg hin] at hj
        exact getc_some (by simp) hj
    · rw [List.getElem?_set, if_neg (fun h => hii h.symm)] at he
      have hjl : j < wd := by
        have := (List.getElem?_eq_some_iff.1 hj).1
        have := hw e (List.mem_of_getElem? he); omega
      refine ⟨hjl, hi', ?_⟩
      rw [if_neg (fun h => hii h.1)]
      exact getc_some he hj
theorem store_ok (hR : Rep w0 M ρ ch w) {t : TypeId} {i0 : TypeInfo} {n : Nat} (hi0 : P.info? t = some i0) (hn : i0.size = n) {addr val : AV} (h : astore ch n addr val = some ch') {va vv : Value}
    (ha : VAV w ρ ch addr va) (hv : VAV w ρ ch val vv) : ∃ w', (Instr.storeAt t va vv).run P w = .ok () w' ∧ Rep w0 M ρ ch' w' ∧ Ext w ρ ch w' ρ ch' := by
  unfold astore at h
  split at h
  · rename_i c off
    split at h
    · rename_i cells hg
      have hc := getD_some hg (by simp)
      split at h
      · rename_i as has
        split at h
        · rename_i hl
          obtain ⟨hl1, hl2⟩ := hl
          cases h
          obtain ⟨_, b, hb, rfl⟩ := ha
          have hvs := avAs_ok has hv
          obtain ⟨b', cur, t', fr, hb', hh, hu, hs, hcell⟩ := hR.chunk c _ hc
          rw [hb] at hb'; cases hb'
          have hlen : vv.cells.toList.length = n := by rw [Array.length_toList]; exact hvs.1.trans hl1
          obtain ⟨w', hrun, hnew, hw⟩ := store_run (P := P) (b := b) (o := off) vv.cells.toList 0 cur w hh hu (by omega) (VAs.one1 hvs)
          refine ⟨w', ?_, ?_⟩
          · have hsz : vv.cells.size = i0.size := by rw [hn]; exact hvs.1.trans hl1
            simp [Instr.storeAt, Instr.sureAddr, storeVar, run_sizeOf' hi0, hsz, hrun]
          · have hE := write_ext hR hb (k' := .box (setRange cells off as)) hc rfl hw trivial
            refine ⟨write_rep hR hb hc rfl hw hE ?_, hE⟩
            have hsr := fun q => setRange_get as cells off q (by omega)
            have hsl := fun q => setsL_get vv.cells.toList cur (off + 0) q (by omega)
            refine ⟨b, _, t', fr, rfl, hnew, by rw [(hsl 0).1]; exact hu, by rw [(hsl 0).1, (hsr 0).1, hs], fun j a hj => ?_⟩
            rw [(hsr j).2] at hj
            rw [(hsl j).2]
            by_cases hin : off ≤ j ∧ j < off + as.length
            · rw [if_pos hin] at hj
              rw [if_pos (by omega)]
              obtain ⟨x, hx, hva⟩ := hvs.2 _ _ hj
              exact ⟨x, by simpa using hx, VA.ext hE hva⟩
            · rw [if_neg hin] at hj
              rw [if_neg (by omega)]
              obtain ⟨x, hx, hva⟩ := hcell j a hj
              exact ⟨x, hx, VA.ext hE hva⟩
        · cases h
      · cases h
    · cases h
  · rename_i c i off
    split at h
    · rename_i ds fz hds
      split at h
      · rename_i nf wd es hg
        split at h
        · rename_i hl
          obtain ⟨hl1, hl2, hl3⟩ := hl
          cases h
          obtain ⟨hR1, hE1⟩ := freezeAll_rep fz hR
          have hc := getD_some hg (by simp)
          have ha1 := VAV.ext hE1 ha
          simp only [VAV, VA, hc] at ha1
          obtain ⟨hi, b, hb, rfl⟩ := ha1
          obtain ⟨hxs, hxr⟩ := avDs_ok hds (fun c hc => hc) hE1 hv
          obtain ⟨hwd, h2⟩ := hR1.chunk c _ hc
          rcases h2 with ⟨hnn, _⟩ | ⟨b', cur, t', fr, cap, hb', hnf, hh, hu, hs, hcap, hcell⟩
          · rw [hb] at hnn; cases hnn
          · rw [hb] at hb'; cases hb'
            have hlen : vv.cells.toList.length = n := by rw [Array.length_toList]; exact hxs.trans hl1
            have hbound : i * wd + wd ≤ cur.size := by
              have : (i + 1) * wd ≤ cap * wd := Nat.mul_le_mul_right wd (by omega)
              rw [Nat.add_mul] at this; omega
            have hone : ∀ v ∈ vv.cells.toList, one1 v = true := by
              intro v hvm
              obtain ⟨j, hj⟩ := List.getElem?_of_mem hvm
              have hj' : vv.cells[j]? = some v := by simpa using hj
              have hlt : j < ds.length := by
                have := (Array.getElem?_eq_some_iff.1 hj').1; omega
              obtain ⟨x, hx, hr⟩ := hxr j ds[j] (by simp)
              rw [hj'] at hx; cases hx
              exact Rd.oneCell hr
            obtain ⟨w', hrun, hnew, hw⟩ := store_run (P := P) (b := b) (o := i * wd + off) vv.cells.toList 0 cur w hh hu (by omega) hone
            have hsg := setE_get hwd hi (ds := ds) (off := off) (by omega) hl3
            refine ⟨w', ?_, ?_⟩
            · have hsz : vv.cells.size = i0.size := by rw [hn]; exact hxs.trans hl1
              simp [Instr.storeAt, Instr.sureAddr, storeVar, run_sizeOf' hi0, hsz, hrun]
            · have hsl := fun q => setsL_get vv.cells.toList cur (i * wd + off + 0) q (by omega)
              have hE := write_ext hR1 hb (k' := .sl nf wd (setE es i off wd ds)) hc rfl hw ⟨rfl, hsg.1.symm, fun b1 cur1 t1 fr1 hb1 hh1 => by
                rw [hb] at hb1; cases hb1
                rw [hh] at hh1; cases hh1
                exact ⟨_, _, _, hnew, (hsl 0).1⟩⟩
              refine ⟨write_rep hR1 hb hc rfl hw hE ⟨hsg.2.1, .inr ⟨b, _, t', fr, cap, rfl, hnf, hnew, by rw [(hsl 0).1]; exact hu, by rw [(hsl 0).1]; exact hs, by rw [hsg.1]; exact hcap, fun i' j d hd => ?_⟩⟩, hE1.trans hE (Nat.le_refl _)⟩
              obtain ⟨hjw, hi', hcase⟩ := hsg.2.2 i' j d hd
              rw [(hsl _).2]
              split at hcase
              · rename_i hin
                obtain ⟨rfl, hin⟩ := hin
                rw [if_pos (by omega)]
                obtain ⟨x, hx, hr⟩ := hxr _ _ hcase
                refine ⟨x, ?_, Rd.keep hE.keeps hr⟩
                rw [show i' * wd + j - (i' * wd + off + 0) = j - off by omega]
                simpa using hx
              · rename_i hin
                have : ¬ (i * wd + off + 0 ≤ i' * wd + j ∧ i' * wd + j < i * wd + off + 0 + vv.cells.toList.length) := by
                  intro hh'
                  apply hin
                  by_cases hii : i' = i
                  · subst hii; exact ⟨rfl, by omega, by omega⟩
                  · exfalso
                    rcases Nat.lt_or_gt_of_ne hii with h' | h'
                    · have : (i' + 1) * wd ≤ i * wd := Nat.mul_le_mul_right wd h'
                      rw [Nat.add_mul] at this; omega
                    · have : (i + 1) * wd ≤ i' * wd := Nat.mul_le_mul_right wd h'
                      rw [Nat.add_mul] at this; omega
                rw [if_neg this]
                obtain ⟨x, hx, hr⟩ := hcell i' j d hcase
                exact ⟨x, hx, Rd.keep hE.keeps hr⟩
        · cases h
      · cases h
    · cases h
  · cases h
end Go.VC
end
section
namespace Go.VC
open Go
variable {P : Program} {w0 w w' : World} {M : Nat → Prop} {ρ ρ' : Env} {ch ch' : List Chunk} {tt : TypeId → Option TI}
def srcEs (ch : List Chunk) : AV → Option (Nat × List (List D))
  | .s (.own c) => match ch.getD c .dead with
    | .sl _ wd es => some (wd, es)
    | .fz _ wd es => some (wd, es)
    | _ => none
  | .s (.d (.sl _ wd es)) => some (wd, es)
  | .s (.d (.v (.string b))) => some (1, encB b.data.toList)
  | _ => none
structure CRes where
  obl : Prop
  val : AV
  ch : List Chunk
def nfUp : Option Bool → Option Bool
  | some true => none
  | some false => some false
  | none => none
theorem nfUp_ne (nf : Option Bool) : nfUp nf ≠ some true := by cases nf with | none => simp [nfUp] | some b => cases b <;> simp [nfUp]
theorem nfUp_nf {nf : Option Bool} (h : nf ≠ some false) : nfUp nf ≠ some false := by cases nf with | none => simp [nfUp] | some b => cases b <;> simp_all [nfUp]
def aappend (ch : List Chunk) (wd by_ : Nat) (dst src : AV) : Option CRes :=
  match srcEs ch src with
  | some (wd2, es2) => if wd2 = wd ∧ by_ ≤ 1024 then match dst with
      | .s (.own c) => match ch.getD c .dead with
        | .sl nf wd1 es => if wd1 = wd then some ⟨es.length + es2.length ≤ 68719476736, .s (.own ch.length), ch.set c .dead ++ [.sl (nfUp nf) wd (es ++ es2)]⟩ else none
        | _ => none
      | .s (.d (.sl (some true) _ [])) => some ⟨es2.length ≤ 68719476736, .s (.own ch.length), ch ++ [.sl none wd es2]⟩
      | _ => none
    else none
  | none => none
structure Src (P : Program) (w : World) (O : Nat → Prop) (wd : Nat) (es : List (List D)) (v : Value) (cs : Array Value) : Prop where
  len : (Builtin.lenOf v).run P w = .ok es.length w
  run : ∀ w2 : World, w2.heap = w.heap → (Builtin.firstCells wd es.length v).run P w2 = .ok cs w2
  size : cs.size = es.length * wd
  row : Row w O wd es cs
theorem load_row {O : Nat → Prop} {wd b off : Nat} {es : List (List D)} (hw : ∀ e ∈ es, e.length = wd)
    (hc : ∀ (i j : Nat) (d : D), getc es i j = some d → ∃ x, w.cell? ⟨b, off + (i * wd + j), none⟩ = some x ∧ Rd w O d x) :
    ∃ cs : Array Value, (∀ w2 : World, w2.heap = w.heap → (loadCells ⟨b, off, none⟩ (es.length * wd)).run P w2 = .ok cs w2) ∧ cs.size = es.length * wd ∧ Row w O wd es cs := by
  have hall : ∀ q, q < es.length * wd → ∃ x, w.cell? ((⟨b, off, none⟩ : Addr).add q) = some x ∧ ∃ d, getc es (q / wd) (q % wd) = some d ∧ Rd w O d x := by
    intro q hq
    have hwd : 0 < wd := by
      rcases Nat.eq_zero_or_pos wd with h | h
      · subst h; omega
      · exact h
    have hi : q / wd < es.length := by rw [Nat.div_lt_iff_lt_mul hwd]; exact hq
    have hj : q % wd < wd := Nat.mod_lt _ hwd
    have he : es[q / wd]? = some es[q / wd] := by simp
    have hel : es[q / wd].length = wd := hw _ (List.getElem_mem hi)
    have hg : getc es (q / wd) (q % wd) = some (es[q / wd][q % wd]'(by omega)) := getc_some he (by simp)
    obtain ⟨x, hx, hr⟩ := hc _ _ _ hg
    refine ⟨x, ?_, _, hg, hr⟩
    rw [addr_add]
    rw [show q / wd * wd + q % wd = q by rw [Nat.mul_comm]; exact Nat.div_add_mod q wd] at hx
    exact hx
  let f : Nat → Value := fun q => (w.cell? ((⟨b, off, none⟩ : Addr).add q)).getD undef
  have hf : ∀ q, q < es.length * wd → w.cell? ((⟨b, off, none⟩ : Addr).add q) = some (f q) := by
    intro q hq
    obtain ⟨x, hx, _⟩ := hall q hq
    simp [f, hx]
  refine ⟨_, fun w2 h2 => run_loadCells (P := P) w2 ⟨b, off, none⟩ _ f (fun q hq => by rw [← hf q hq]; simp only [World.cell?, h2]), by simp, hw, fun i j d hd => ?_⟩
  obtain ⟨e, he, hj⟩ := getc_lt hd
  have hi : i < es.length := (List.getElem?_eq_some_iff.1 he).1
  have hjw : j < wd := by
    have := (List.getElem?_eq_some_iff.1 hj).1
    have := hw e (List.mem_of_getElem? he); omega
  have hq : i * wd + j < es.length * wd := by
    have : (i + 1) * wd ≤ es.length * wd := Nat.mul_le_mul_right wd hi
    rw [Nat.add_mul] at this; omega
  obtain ⟨x, hx, hr⟩ := hc i j d hd
  refine ⟨x, ?_, hr⟩
  simp [hq, f, addr_add, hx]
theorem src_rd {O : Nat → Prop} {nf : Option Bool} {wd : Nat} {es : List (List D)} {v : Value} (h : Rd w O (.sl nf wd es) v) : ∃ cs, Src P w O wd es v cs := by
  cases h with
  | nil => exact ⟨#[], by simp [Builtin.lenOf], fun _ _ => by simp [Builtin.firstCells], by simp, by simp, by intro i j d hd; simp [getc] at hd⟩
  | sl _ _ _ b off cap f hn hl hw hc hr =>
    obtain ⟨cs, h1, h2, h3⟩ := load_row (P := P) (w := w) (O := O) (b := b) (off := off) hw (fun i j d hd => ⟨_, (hc i j d hd).2, hr i j d hd⟩)
    exact ⟨cs, by simp [Builtin.lenOf], fun w2 hw2 => by simpa [Builtin.firstCells] using h1 w2 hw2, h2, h3⟩
theorem own_src (hR : Rep w0 M ρ ch w) {c : Nat} {nf : Option Bool} {wd : Nat} {es : List (List D)} (hc : ch[c]? = some (.sl nf wd es)) {v : Value} (hv : VA w ρ ch (.own c) v) : ∃ cs, Src P w (Own ρ ch) wd es v cs := by
  obtain ⟨hw, h2⟩ := hR.chunk c _ hc
  simp only [VA, hc] at hv
  rcases h2 with ⟨hn, rfl, hnf⟩ | ⟨b, cur, t, fr, cap, hb, hnf, hh, hu, hs, hl, hcell⟩
  · rcases hv with ⟨_, rfl⟩ | ⟨b, cap, cur, t, fr, hb, _⟩
    · exact ⟨#[], by simp [Builtin.lenOf], fun _ _ => by simp [Builtin.firstCells], by simp, by simp, by intro i j d hd; simp [getc] at hd⟩
    · rw [hn] at hb; cases hb
  · rcases hv with ⟨hn, _⟩ | ⟨b', cap', cur', t', fr', hb', rfl, hh', hs', hl'⟩
    · rw [hn] at hb; cases hb
    · rw [hb] at hb'; cases hb'
      rw [hh] at hh'; cases hh'
      obtain ⟨cs, h1, h2, h3⟩ := load_row (P := P) (w := w) (O := Own ρ ch) (b := b) (off := 0) hw (fun i j d hd => by
        obtain ⟨x, hx, hr⟩ := hcell i j d hd
        exact ⟨x, by simp [World.cell?, hh, hx], hr⟩)
      exact ⟨cs, by simp [Builtin.lenOf], fun w2 hw2 => by simpa [Builtin.firstCells] using h1 w2 hw2, h2, h3⟩
theorem encB_length (l : List UInt8) : (encB l).length = l.length := by simp [encB]
theorem encB_row {O : Nat → Prop} (l : List UInt8) : Row w O 1 (encB l) (l.map fun b => Value.int .u8 b.toNat).toArray := by
  refine ⟨fun x hx => by simp only [encB, List.mem_map] at hx; obtain ⟨y, _, rfl⟩ := hx; rfl, fun i j d hd => ?_⟩
  obtain ⟨x, hx, hj⟩ := getc_lt hd
  simp only [encB, List.getElem?_map] at hx
  cases hy : l[i]? with
  | none => simp [hy] at hx
  | some y =>
    simp [hy] at hx; subst hx
    cases j with
    | zero =>
      simp at hj; subst hj
      exact ⟨.int .u8 y.toNat, by simp [hy], .v _ rfl⟩
    | succ j => simp at hj
theorem src_ok (hR : Rep w0 M ρ ch w) {x : AV} {wd : Nat} {es : List (List D)} (h : srcEs ch x = some (wd, es)) {v : Value} (hv : VAV w ρ ch x v) : ∃ cs, Src P w (Own ρ ch) wd es v cs := by
  unfold srcEs at h
  split at h
  · split at h
    · rename_i hg
      cases h
      exact own_src hR (getD_some hg (by simp)) hv
    · rename_i hg
      cases h
      simp only [VAV, VA, getD_some hg (by simp)] at hv
      exact src_rd hv
    · cases h
  · cases h; exact src_rd hv
  · rename_i b
    cases h
    have e1 := rdS hv; subst e1
    refine ⟨(b.data.toList.map fun x => Value.int .u8 x.toNat).toArray, ?_, ?_, by simp [encB], encB_row _⟩
    · rw [encB_length, len_data]; simp [Builtin.lenOf]
    · intro w2 _
      rw [encB_length, len_data]
      simp only [Builtin.firstCells, Sem.run_pure]
      congr 1
      apply Array.ext'
      simp
  · cases h
theorem getc_append {es es2 : List (List D)} {i j : Nat} {d : D} (h : getc (es ++ es2) i j = some d) : (i < es.length ∧ getc es i j = some d) ∨ (es.length ≤ i ∧ getc es2 (i - es.length) j = some d) := by
  unfold getc at h ⊢
  rcases Nat.lt_or_ge i es.length with hi | hi
  · rw [List.getElem?_append_left hi] at h; exact .inl ⟨hi, h⟩
  · rw [List.getElem?_append_right hi] at h; exact .inr ⟨hi, h⟩
theorem getc_bound {wd : Nat} {es : List (List D)} (hw : ∀ e ∈ es, e.length = wd) {i j : Nat} {d : D} (h : getc es i j = some d) : i < es.length ∧ j < wd ∧ i * wd + j < es.length * wd := by
  obtain ⟨e, he, hj⟩ := getc_lt h
  have hi : i < es.length := (List.getElem?_eq_some_iff.1 he).1
  have hjw : j < wd := by
    have := (List.getElem?_eq_some_iff.1 hj).1
    have := hw e (List.mem_of_getElem? he); omega
  have : (i + 1) * wd ≤ es.length * wd := Nat.mul_le_mul_right wd hi
  rw [Nat.add_mul] at this
  exact ⟨hi, hjw, by omega⟩
theorem row_append {O : Nat → Prop} {wd : Nat} {es es2 : List (List D)} {cur cs2 : Array Value} (h1 : ∀ e ∈ es, e.length = wd) (hc1 : ∀ (i j : Nat) (d : D), getc es i j = some d → ∃ x, cur[i * wd + j]? = some x ∧ Rd w O d x)
    (h2 : Row w O wd es2 cs2) (hcs2 : ∀ q, q < es2.length * wd → cur[es.length * wd + q]? = cs2[q]?) : Row w O wd (es ++ es2) cur := by
  refine ⟨fun e he => ?_, fun i j d hd => ?_⟩
  · rcases List.mem_append.1 he with h | h
    · exact h1 e h
    · exact h2.1 e h
  · rcases getc_append hd with ⟨_, h⟩ | ⟨hi, h⟩
    · exact hc1 i j d h
    · obtain ⟨x, hx, hr⟩ := h2.2 _ _ _ h
      obtain ⟨_, _, hb⟩ := getc_bound h2.1 h
      refine ⟨x, ?_, hr⟩
      rw [← hx, ← hcs2 _ hb]
      congr 1
      obtain ⟨k, rfl⟩ : ∃ k, i = es.length + k := ⟨i - es.length, by omega⟩
      rw [Nat.add_mul, show es.length + k - es.length = k by omega]; omega
theorem growBy_le (need : Nat) : ∀ (rounds c : Nat), c < need → Builtin.growBy need rounds c ≤ 2 * need + 1024 := by
  intro rounds
  induction rounds with
  | zero => intro c hc; simp only [Builtin.growBy]; omega
  | succ n ih =>
    intro c hc
    simp only [Builtin.growBy]
    rw [if_neg (by omega)]
    rcases Nat.lt_or_ge (c + (c + 768) / 4) need with h | h
    · exact ih _ h
    · cases n with
      | zero => simp only [Builtin.growBy]; omega
      | succ n => simp only [Builtin.growBy]; rw [if_pos h]; omega
theorem nextcap_le {need cap : Nat} (h : cap < need) : Builtin.nextslicecap need cap ≤ 2 * need + 1024 := by
  unfold Builtin.nextslicecap
  split
  · omega
  · split
    · omega
    · exact growBy_le need 4 cap h
theorem move_ok (hR : Rep w0 M ρ ch w) {c b : Nat} {nf : Option Bool} {wd : Nat} {es es' : List (List D)} (hc : ch[c]? = some (.sl nf wd es)) (hb : ρ c = some b) (hw : Wrote w b w')
    {cur : Array Value} {t : TypeId} {fr : Nat × Nat} {cap : Nat} {nf' : Option Bool} (hn : nf' ≠ some true) (hh : w'.heap[b]? = some (.cells cur t fr)) (hu : Unfrozen cur.size fr) (hs : cur.size = cap * wd) (hl : es'.length ≤ cap)
    (hrow : ∀ O', Keeps w (Own ρ ch) w' O' → Row w' O' wd es' cur) :
    Rep w0 M (upd ρ ch.length (some b)) (ch.set c .dead ++ [.sl nf' wd es']) w' ∧ Ext w ρ ch w' (upd ρ ch.length (some b)) (ch.set c .dead ++ [.sl nf' wd es']) := by
  have hlt := (List.getElem?_eq_some_iff.1 hc).1
  have hlen : (ch.set c Chunk.dead).length = ch.length := by simp
  have get : ∀ {c' : Nat} {x : Chunk}, (ch.set c .dead ++ [Chunk.sl nf' wd es'])[c']? = some x → (c' = c ∧ x = .dead) ∨ (c' ≠ c ∧ c' < ch.length ∧ ch[c']? = some x) ∨ (c' = ch.length ∧ x = .sl nf' wd es') := by
    intro c' x hx
    rcases getElem?_push hx with ⟨hl', h⟩ | ⟨h1, h2⟩
    · rw [List.getElem?_set] at h
      split at h
      · rename_i e; subst e
        first | (cases h; exact .inl ⟨rfl, rfl⟩) | (rw [if_pos hlt] at h; cases h; exact .inl ⟨rfl, rfl⟩)
      · rename_i e; exact .inr (.inl ⟨fun e' => e e'.symm, by omega, h⟩)
    · exact .inr (.inr ⟨by omega, h2⟩)
  have hown : ∀ {x : Nat}, OwnC (upd ρ ch.length (some b)) (ch.set c .dead ++ [.sl nf' wd es']) x → OwnC ρ ch x := by
    rintro x ⟨c', k, hk, ho, hr⟩
    rcases get hk with ⟨_, rfl⟩ | ⟨_, hl', h⟩ | ⟨rfl, rfl⟩
    · simp [Chunk.isOwn] at ho
    · rw [upd_get, if_neg (by omega)] at hr; exact ⟨c', k, h, ho, hr⟩
    · rw [upd_get, if_pos rfl] at hr; cases hr
      exact ⟨c, _, hc, rfl, hb⟩
  have hK : Keeps w (Own ρ ch) w' (Own (upd ρ ch.length (some b)) (ch.set c .dead ++ [.sl nf' wd es'])) := by
    intro x hx hO
    have hne : x ≠ b := fun e => hO (.inr ⟨c, _, hc, rfl, e ▸ hb⟩)
    exact ⟨hw.block x hne, fun h => h.elim (fun h => hO (.inl h)) (fun h => hO (.inr (hown h)))⟩
  have hE : Ext w ρ ch w' (upd ρ ch.length (some b)) (ch.set c .dead ++ [.sl nf' wd es']) := by
    refine ⟨hK, fun c' hc' => by rw [upd_get, if_neg (by omega)], rfl, fun c' x hx => ?_⟩
    have hlt' := (List.getElem?_eq_some_iff.1 hx).1
    by_cases he : c' = c
    · subst he
      exact ⟨.dead, by rw [List.getElem?_append_left (by simpa using hlt')]; simp [hlt'], by cases x <;> simp [Turns]⟩
    · refine ⟨x, by rw [List.getElem?_append_left (by simpa using hlt'), List.getElem?_set, if_neg (fun e => he e.symm)]; exact hx, ?_⟩
      cases x with
      | box => simp [Turns]
      | dead => simp [Turns]
      | fz => simp [Turns]
      | sl n d e =>
        refine ⟨rfl, rfl, fun b' cur' t' fr' hb' hh' => ⟨cur', t', fr', ?_, rfl⟩⟩
        have : b' ≠ b := fun e' => he (hR.inj c' c _ _ b' hx hc rfl rfl hb' (e' ▸ hb))
        exact (hw.block b' this).trans hh'
  have hMb : w0.heap.size ≤ b ∨ M b := hR.new c _ b hc rfl hb
  refine ⟨⟨⟨hw.os.trans hR.wok.os, hw.tape.trans hR.wok.tape, hw.output.trans hR.wok.output, hw.size ▸ hR.wok.size, fun x hx hm => ?_⟩, fun c' x hx => ?_, fun c1 c2 x y b' h1 h2 h3 h4 h5 h6 => ?_, fun c1 x b' h1 h2 h3 => ?_, hR.far⟩, hE⟩
  · have : x ≠ b := by
      rintro rfl
      rcases hMb with h | h
      · omega
      · exact hm h
    exact (hw.block x this).trans (hR.wok.block x hx hm)
  · rcases get hx with ⟨rfl, rfl⟩ | ⟨hne, hl', h⟩ | ⟨rfl, rfl⟩
    · trivial
    · rw [upd_get, if_neg (by omega)]
      refine ChunkRep.ext hE (fun hox b' hb' => hw.block b' ?_) (hR.chunk c' x h)
      rintro rfl
      exact hne (hR.inj c' c x _ b' h hc hox rfl hb' hb)
    · rw [upd_get, if_pos rfl]
      exact owned_new nf' hn hh hu hs hl (hrow _ hK)
  · rcases get h1 with ⟨_, rfl⟩ | ⟨hne1, hl1, g1⟩ | ⟨e1, g1⟩
    · simp [Chunk.isOwn] at h3
    · rw [upd_get, if_neg (by omega)] at h5
      rcases get h2 with ⟨_, rfl⟩ | ⟨hne2, hl2, g2⟩ | ⟨e2, g2⟩
      · simp [Chunk.isOwn] at h4
      · rw [upd_get, if_neg (by omega)] at h6
        exact hR.inj c1 c2 x y b' g1 g2 h3 h4 h5 h6
      · rw [upd_get, if_pos e2] at h6; cases h6
        exact absurd (hR.inj c1 c x _ b g1 hc h3 rfl h5 hb) hne1
    · rw [upd_get, if_pos e1] at h5; cases h5
      rcases get h2 with ⟨_, rfl⟩ | ⟨hne2, hl2, g2⟩ | ⟨e2, g2⟩
      · simp [Chunk.isOwn] at h4
      · rw [upd_get, if_neg (by omega)] at h6
        exact absurd (hR.inj c2 c y _ b g2 hc h4 rfl h6 hb) hne2
      · omega
  · rcases get h1 with ⟨_, rfl⟩ | ⟨hne1, hl1, g1⟩ | ⟨e1, g1⟩
    · simp [Chunk.isOwn] at h2
    · rw [upd_get, if_neg (by omega)] at h3
      exact hR.new c1 x b' g1 h2 h3
    · rw [upd_get, if_pos e1] at h3; cases h3
      exact hMb
theorem kill_ok (hR : Rep w0 M ρ ch w) {c : Nat} : Rep w0 M ρ (ch.set c .dead) w ∧ Ext w ρ ch w ρ (ch.set c .dead) := by
  have hown : ∀ {x : Nat}, OwnC ρ (ch.set c .dead) x → OwnC ρ ch x := by
    rintro x ⟨c', k, hk, ho, hr⟩
    exact ⟨c', k, set_get_own rfl hk ho, ho, hr⟩
  have hE : Ext w ρ ch w ρ (ch.set c .dead) := by
    refine ⟨fun x hx hO => ⟨rfl, fun h => h.elim (fun h => hO (.inl h)) (fun h => hO (.inr (hown h)))⟩, fun _ _ => rfl, rfl, fun c' x hx => ?_⟩
    have hlt' := (List.getElem?_eq_some_iff.1 hx).1
    by_cases he : c' = c
    · subst he
      exact ⟨.dead, by simp [hlt'], by cases x <;> simp [Turns]⟩
    · obtain ⟨k', h1, h2⟩ := (Ext.refl w ρ ch).turns c' x hx
      rw [hx] at h1; cases h1
      refine ⟨x, by rw [List.getElem?_set, if_neg (fun e => he e.symm)]; exact hx, ?_⟩
      cases x with
      | box => simp [Turns]
      | dead => simp [Turns]
      | fz => simp [Turns]
      | sl n d e => simpa [Turns] using h2
  refine ⟨⟨hR.wok, fun c' x hx => ?_, fun a b k k' x ha hb hoa hob => hR.inj a b k k' x (set_get_own rfl ha hoa) (set_get_own rfl hb hob) hoa hob, fun a k x ha hoa => hR.new a k x (set_get_own rfl ha hoa) hoa, hR.far⟩, hE⟩
  rw [List.getElem?_set] at hx
  split at hx
  · split at hx
    · cases hx; trivial
    · cases hx
  · exact ChunkRep.ext hE (fun _ _ _ => rfl) (hR.chunk c' x hx)
end Go.VC
end
section
namespace Go.VC
open Go
variable {P : Program} {w0 w w' : World} {M : Nat → Prop} {ρ ρ' : Env} {ch ch' : List Chunk} {tt : TypeId → Option TI}
def notInt (d : TypeDesc) : Prop := d = .string ∨ ∃ e, d = .slice e
theorem append_in {t0 t1 ty el : TypeId} {d1 : TypeDesc} {ie : TypeInfo} (h0 : P.underlying t0 = some (.slice el)) (h1 : P.underlying t1 = some d1) (hd : notInt d1) (he : P.info? el = some ie)
    {b len cap n : Nat} {v : Value} {cs : Array Value} (hl : (Builtin.lenOf v).run P w = .ok n w) (hf : (Builtin.firstCells ie.size n v).run P w = .ok cs w) (hc : len + n ≤ cap)
    {w' : World} (hs : (storeCells ⟨b, len * ie.size, none⟩ cs.toList).run P w = .ok () w') :
    (Builtin.append_ #[t0, t1] ty #[.slice (some ⟨b, 0, none⟩) len cap, v]).run P w = .ok (.slice (some ⟨b, 0, none⟩) (len + n) cap) w' := by
  rcases hd with rfl | ⟨e1, rfl⟩ <;> simp [Builtin.append_, run_underlying' h0, run_sizeOf' he, run_underlying' h1, hl, hc, hf, addr_add, hs]
theorem append_none {t0 t1 ty el : TypeId} {d1 : TypeDesc} {ie : TypeInfo} (h0 : P.underlying t0 = some (.slice el)) (h1 : P.underlying t1 = some d1) (hd : notInt d1) (he : P.info? el = some ie)
    {v : Value} {cs : Array Value} (hl : (Builtin.lenOf v).run P w = .ok 0 w) (hf : (Builtin.firstCells ie.size 0 v).run P w = .ok cs w) :
    (Builtin.append_ #[t0, t1] ty #[.slice none 0 0, v]).run P w = .ok (.slice none 0 0) w := by
  rcases hd with rfl | ⟨e1, rfl⟩ <;> simp [Builtin.append_, run_underlying' h0, run_sizeOf' he, run_underlying' h1, hl, hf]
theorem append_grow {t0 t1 ty el : TypeId} {d1 : TypeDesc} {ie : TypeInfo} {zv : Value} (h0 : P.underlying t0 = some (.slice el)) (h1 : P.underlying t1 = some d1) (hd : notInt d1) (he : P.info? el = some ie) (hzv : ie.zero = some zv)
    {a : Option Addr} {len cap n : Nat} {v : Value} {cs old : Array Value} (hl : (Builtin.lenOf v).run P w = .ok n w) (hf : (Builtin.firstCells ie.size n v).run P w.drew = .ok cs w.drew) (hc : cap < len + n)
    (ho : (Builtin.firstCells ie.size len (.slice a len cap)).run P w.drew = .ok old w.drew) (hbytes : ie.bytes ≤ 1024) (hn : len + n ≤ 68719476736) :
    ∃ q, (Builtin.append_ #[t0, t1] ty #[.slice a len cap, v]).run P w = .ok (.slice (some ⟨w.heap.size, 0, none⟩) (len + n) (len + n + q)) (w.drew.alloc (.cells (old ++ cs ++ Builtin.zeroCells zv.cells q) el)) := by
  have hc' : ¬ (len + n ≤ cap) := by omega
  have hbig : ¬ (Builtin.nextslicecap (len + n) cap * ie.bytes > 2 ^ 48) := by
    have h1 := nextcap_le hc
    have h2 : Builtin.nextslicecap (len + n) cap * ie.bytes ≤ (2 * (len + n) + 1024) * 1024 := Nat.mul_le_mul h1 hbytes
    omega
  refine ⟨(w.tape w.drawn (.appendCap (len + n) cap el)) % (2 ^ 63 - (len + n)), ?_⟩
  have hmax : ¬ (9223372036854775807 < ((len + n : Nat) : Int)) := by omega
  have hmax' : ¬ (9223372036854775807 < (len : Int) + (n : Int)) := by omega
  have hbig' : ¬ (281474976710656 < Builtin.nextslicecap (len + n) cap * ie.bytes) := by omega
  have hsub : ∀ t, len + n + t - (len + n) = t := by intro t; omega
  have hq1 : (Question.appendCap (len + n) cap el).forced = false := rfl
  have hq2 : ∀ t, (Question.appendCap (len + n) cap el).cut t = len + n + t % (9223372036854775808 - (len + n)) := fun t => by simp [Question.cut]
  rcases hd with rfl | ⟨e1, rfl⟩
  · simp only [Builtin.append_]
    simp [run_underlying' h0, run_sizeOf' he, run_underlying' h1, hl, hc', run_typeInfo' he, hmax', hbig', hq1, hq2, ho, hf, run_zeroValue' he hzv, hsub, newRow]
  · simp only [Builtin.append_]
    simp [run_underlying' h0, run_sizeOf' he, run_underlying' h1, hl, hc', run_typeInfo' he, hmax', hbig', hq1, hq2, ho, hf, run_zeroValue' he hzv, hsub, newRow]
theorem aappend_ok (hR : Rep w0 M ρ ch w) {t0 t1 ty : TypeId} {wd by_ : Nat} {ag : Bool} {zs : List D} (ht : TIok P t0 (.sl wd by_ ag zs)) {d1 : TypeDesc} (h1 : P.underlying t1 = some d1) (hd1 : notInt d1)
    {dst src : AV} {r : CRes} (h : aappend ch wd by_ dst src = some r) (ho : r.obl) {vd vs : Value} (hvd : VAV w ρ ch dst vd) (hvs : VAV w ρ ch src vs) :
    ∃ v w' ρ', (Builtin.append_ #[t0, t1] ty #[vd, vs]).run P w = .ok v w' ∧ Rep w0 M ρ' r.ch w' ∧ VAV w' ρ' r.ch r.val v ∧ Ext w ρ ch w' ρ' r.ch := by
  obtain ⟨i, el, ie, z, d, g1, g2, g3, h0, he, hsz, hby, hzv, hzr, hzl, _⟩ := ht
  unfold aappend at h
  split at h
  · rename_i wd2 es2 hsrc
    split at h
    · rename_i hcond
      obtain ⟨rfl, hb1024⟩ := hcond
      obtain ⟨cs, hlen, hfirst, hcs, hrow2⟩ := src_ok (P := P) hR hsrc hvs
      subst hsz hby
      split at h
      · rename_i c
        split at h
        · rename_i nf wd1 es hg
          split at h
          · rename_i hwd; subst hwd
            cases h
            have ho : es.length + es2.length ≤ 68719476736 := ho
            have hc := getD_some hg (by simp)
            have hlt := (List.getElem?_eq_some_iff.1 hc).1
            obtain ⟨hw, h2⟩ := hR.chunk c _ hc
            have hvd0 := hvd
            simp only [VAV, VA, hc] at hvd
            have hget : ∀ {k : Chunk}, (ch.set c .dead ++ [k])[ch.length]? = some k := by
              intro k
              rw [List.getElem?_append_right (by simp)]; simp
            have grow : ∀ {a : Option Addr} {cap : Nat}, vd = .slice a es.length cap → cap < es.length + es2.length → ∃ v w' ρ', (Builtin.append_ #[t0, t1] ty #[vd, vs]).run P w = .ok v w' ∧ Rep w0 M ρ' (ch.set c .dead ++ [.sl (nfUp nf) ie.size (es ++ es2)]) w' ∧
                VAV w' ρ' (ch.set c .dead ++ [.sl (nfUp nf) ie.size (es ++ es2)]) (.s (.own ch.length)) v ∧ Ext w ρ ch w' ρ' (ch.set c .dead ++ [.sl (nfUp nf) ie.size (es ++ es2)]) := by
              intro a cap hvd' hcap
              obtain ⟨old, _, ofirst, ocs, orow⟩ := own_src (P := P) hR hc hvd0
              subst hvd'
              obtain ⟨q, hrun⟩ := append_grow (P := P) (w := w) (ty := ty) h0 h1 hd1 he hzv hlen (hfirst w.drew rfl) hcap (ofirst w.drew rfl) hb1024 ho
              obtain ⟨hRk, hEk⟩ := kill_ok hR (c := c)
              have hg' : WOk w (fun _ => False) (w.drew.alloc (.cells (old ++ cs ++ Builtin.zeroCells z.cells q) el)) := ⟨rfl, rfl, rfl, by simp, fun b hb _ => heap_alloc_old w.drew _ b hb⟩
              have hnew : (w.drew.alloc (.cells (old ++ cs ++ Builtin.zeroCells z.cells q) el)).heap[w.heap.size]? = some (.cells (old ++ cs ++ Builtin.zeroCells z.cells q) el (0, 0)) := heap_alloc_new w.drew _
              have hEp := push_ext (ρ := ρ) (ch := ch.set c .dead) hg' (k := .sl (nfUp nf) ie.size (es ++ es2)) (r := some w.heap.size) (by simp)
              have hzc : (Builtin.zeroCells z.cells q).size = q * ie.size := by
                have : z.cells.size = ie.size := hzr.1.trans hzl
                simp [Builtin.zeroCells, this]
              have hcsz : (old ++ cs ++ Builtin.zeroCells z.cells q).size = (es.length + es2.length + q) * ie.size := by
                rw [Array.size_append, Array.size_append, ocs, hcs, hzc, Nat.add_mul, Nat.add_mul]
              have hrow : Row w (Own ρ (ch.set c .dead)) ie.size (es ++ es2) (old ++ cs ++ Builtin.zeroCells z.cells q) := by
                have o1 := orow.keep hEk.keeps
                have o2 := hrow2.keep hEk.keeps
                refine row_append o1.1 (fun i j d hd => ?_) o2 (fun q' hq' => ?_)
                · obtain ⟨x, hx, hr⟩ := o1.2 i j d hd
                  obtain ⟨_, _, hb⟩ := getc_bound o1.1 hd
                  refine ⟨x, ?_, hr⟩
                  rw [Array.append_assoc, Array.getElem?_append_left (by omega)]; exact hx
                · rw [Array.append_assoc, Array.getElem?_append_right (by omega), ocs, Array.getElem?_append_left (by omega)]
                  congr 1; omega
              have hPp := push_rep hRk hg' (k := .sl (nfUp nf) ie.size (es ++ es2)) (r := some w.heap.size) (by simp) (owned_new _ (nfUp_ne nf) hnew (.inl (Nat.le_refl _)) hcsz (by simp; try omega) (hrow.keep hEp.keeps))
              have hlen' : (ch.set c Chunk.dead).length = ch.length := by simp
              rw [hlen'] at hEp hPp
              refine ⟨_, _, _, hrun, hPp, ?_, hEk.trans hEp (Nat.le_refl _)⟩
              simp only [VAV, VA, hget]
              exact .inr ⟨w.heap.size, es.length + es2.length + q, _, el, (0, 0), by simp [upd], by simp, hnew, hcsz, by simp; try omega⟩
            rcases h2 with ⟨hn, rfl, hnf⟩ | ⟨b, cur, t, fr, cap, hb, hnf, hh, hu, hs, hl, hcell⟩
            · rcases hvd with ⟨_, rfl⟩ | ⟨b, _, _, _, _, hb, _⟩
              · by_cases h20 : es2.length = 0
                · have h2n : es2 = [] := List.length_eq_zero_iff.1 h20
                  subst h2n
                  have hrun := append_none (P := P) (w := w) (ty := ty) h0 h1 hd1 he hlen (hfirst w rfl)
                  obtain ⟨hRk, hEk⟩ := kill_ok hR (c := c)
                  have hEp := push_ext (ρ := ρ) (ch := ch.set c .dead) (WOk.refl w _) (k := .sl (nfUp nf) ie.size ([] ++ [])) (r := none) (by simp)
                  have hPp := push_rep hRk (WOk.refl w _) (k := .sl (nfUp nf) ie.size ([] ++ [])) (r := none) (by simp) ⟨by simp, .inl ⟨rfl, rfl, nfUp_nf hnf⟩⟩
                  have hlen' : (ch.set c Chunk.dead).length = ch.length := by simp
                  rw [hlen'] at hEp hPp
                  refine ⟨_, _, _, hrun, hPp, ?_, hEk.trans hEp (Nat.le_refl _)⟩
                  simp only [VAV, VA, hget]
                  exact .inl ⟨by simp [upd], by first | rfl | trivial⟩
                · exact grow rfl (by simp; omega)
              · rw [hn] at hb; cases hb
            · rcases hvd with ⟨hn, _⟩ | ⟨b', cap', cur', t', fr', hb', rfl, hh', hs', hl'⟩
              · rw [hn] at hb; cases hb
              · rw [hb] at hb'; cases hb'
                rw [hh] at hh'; cases hh'
                by_cases hfit : es.length + es2.length ≤ cap'
                · have hcl : cs.toList.length = es2.length * ie.size := by simpa using hcs
                  have hbound : es.length * ie.size + cs.toList.length ≤ cur.size := by
                    have : (es.length + es2.length) * ie.size ≤ cap' * ie.size := Nat.mul_le_mul_right _ hfit
                    rw [Nat.add_mul] at this; omega
                  have hone : ∀ v ∈ cs.toList, one1 v = true := by
                    intro v hvm
                    obtain ⟨q, hq⟩ := List.getElem?_of_mem hvm
                    have hq' : cs[q]? = some v := by simpa using hq
                    have hqlt := (Array.getElem?_eq_some_iff.1 hq').1
                    have hwd : 0 < ie.size := by
                      rcases Nat.eq_zero_or_pos ie.size with h | h
                      · rw [h] at hcs; omega
                      · exact h
                    have hi : q / ie.size < es2.length := by rw [Nat.div_lt_iff_lt_mul hwd]; omega
                    have hj : q % ie.size < ie.size := Nat.mod_lt _ hwd
                    have hel : es2[q / ie.size].length = ie.size := hrow2.1 _ (List.getElem_mem hi)
                    have hgc : getc es2 (q / ie.size) (q % ie.size) = some (es2[q / ie.size][q % ie.size]'(by omega)) := getc_some (List.getElem?_eq_getElem hi) (List.getElem?_eq_getElem _)
                    obtain ⟨x, hx, hr⟩ := hrow2.2 _ _ _ hgc
                    rw [show q / ie.size * ie.size + q % ie.size = q by rw [Nat.mul_comm]; exact Nat.div_add_mod q _] at hx
                    rw [hq'] at hx; cases hx
                    exact Rd.oneCell hr
                  obtain ⟨w', hst, hnew, hwr⟩ := store_run (P := P) (b := b) (o := es.length * ie.size) cs.toList 0 cur w hh hu (by omega) hone
                  have hrun := append_in (P := P) (w := w) (ty := ty) h0 h1 hd1 he hlen (hfirst w rfl) hfit hst
                  have hsl := fun q => setsL_get cs.toList cur (es.length * ie.size + 0) q (by omega)
                  obtain ⟨hRm, hEm⟩ := move_ok hR hc hb hwr (es' := es ++ es2) (nf' := nfUp nf) (nfUp_ne nf) hnew (by rw [(hsl 0).1]; exact hu) (by rw [(hsl 0).1]; exact hs') (by simpa using hfit) (fun O' hK => by
                    have o2 := hrow2.keep hK
                    refine row_append hw (fun i j d hd => ?_) o2 (fun q' hq' => ?_)
                    · obtain ⟨x, hx, hr⟩ := hcell i j d hd
                      obtain ⟨_, _, hbb⟩ := getc_bound hw hd
                      refine ⟨x, ?_, Rd.keep hK hr⟩
                      rw [(hsl _).2, if_neg (by omega)]; exact hx
                    · rw [(hsl _).2, if_pos (by omega)]
                      rw [show es.length * ie.size + q' - (es.length * ie.size + 0) = q' by omega]
                      simp)
                  refine ⟨_, _, _, hrun, hRm, ?_, hEm⟩
                  simp only [VAV, VA, hget]
                  exact .inr ⟨b, cap', _, _, _, by simp [upd], by simp, hnew, (hsl 0).1.trans hs', by simpa using hfit⟩
                · exact grow rfl (by omega)
          · cases h
        · cases h
      · rename_i wdn
        cases h
        have ho : es2.length ≤ 68719476736 := ho
        have hvd' : vd = .slice none 0 0 := by
          have hvd : Rd w (Own ρ ch) (.sl (some true) wdn []) vd := hvd
          cases hvd with
          | nil => rfl
          | sl _ _ _ _ _ _ _ hn => exact absurd rfl hn
        subst hvd'
        have hget : ∀ {k : Chunk}, (ch ++ [k])[ch.length]? = some k := by intro k; simp
        by_cases h20 : es2.length = 0
        · have h2n : es2 = [] := List.length_eq_zero_iff.1 h20
          subst h2n
          have hrun := append_none (P := P) (w := w) (ty := ty) h0 h1 hd1 he hlen (hfirst w rfl)
          have hEp := push_ext (ρ := ρ) (ch := ch) (WOk.refl w _) (k := .sl none ie.size []) (r := none) (by simp)
          have hPp := push_rep hR (WOk.refl w _) (k := .sl none ie.size []) (r := none) (by simp) ⟨by simp, .inl ⟨rfl, rfl, by simp⟩⟩
          refine ⟨_, _, _, hrun, hPp, ?_, hEp⟩
          simp only [VAV, VA, hget]
          exact .inl ⟨by simp [upd], by first | rfl | trivial⟩
        · have ofirst : (Builtin.firstCells ie.size 0 (.slice none 0 0)).run P w.drew = .ok #[] w.drew := by simp [Builtin.firstCells]
          obtain ⟨q, hrun⟩ := append_grow (P := P) (w := w) (ty := ty) h0 h1 hd1 he hzv hlen (hfirst w.drew rfl) (show 0 < 0 + es2.length by omega) ofirst hb1024 (by omega)
          have hg' : WOk w (fun _ => False) (w.drew.alloc (.cells (#[] ++ cs ++ Builtin.zeroCells z.cells q) el)) := ⟨rfl, rfl, rfl, by simp, fun b hb _ => heap_alloc_old w.drew _ b hb⟩
          have hnew : (w.drew.alloc (.cells (#[] ++ cs ++ Builtin.zeroCells z.cells q) el)).heap[w.heap.size]? = some (.cells (#[] ++ cs ++ Builtin.zeroCells z.cells q) el (0, 0)) := heap_alloc_new w.drew _
          have hEp := push_ext (ρ := ρ) (ch := ch) hg' (k := .sl none ie.size es2) (r := some w.heap.size) (by simp)
          have hzc : (Builtin.zeroCells z.cells q).size = q * ie.size := by
            have : z.cells.size = ie.size := hzr.1.trans hzl
            simp [Builtin.zeroCells, this]
          have hcsz : (#[] ++ cs ++ Builtin.zeroCells z.cells q).size = (0 + es2.length + q) * ie.size := by
            rw [Array.size_append, Array.size_append, hcs, hzc, Nat.add_mul, Nat.add_mul]; simp
          have hrow : Row w (Own ρ ch) ie.size es2 (#[] ++ cs ++ Builtin.zeroCells z.cells q) := by
            refine ⟨hrow2.1, fun i j d hd => ?_⟩
            obtain ⟨x, hx, hr⟩ := hrow2.2 i j d hd
            obtain ⟨_, _, hb⟩ := getc_bound hrow2.1 hd
            refine ⟨x, ?_, hr⟩
            rw [Array.empty_append, Array.getElem?_append_left (by omega)]; exact hx
          have hPp := push_rep hR hg' (k := .sl none ie.size es2) (r := some w.heap.size) (by simp) (owned_new _ (by simp) hnew (.inl (Nat.le_refl _)) hcsz (by omega) (hrow.keep hEp.keeps))
          refine ⟨_, _, _, hrun, hPp, ?_, hEp⟩
          simp only [VAV, VA, hget]
          exact .inr ⟨w.heap.size, 0 + es2.length + q, _, el, (0, 0), by simp [upd], by simp, hnew, hcsz, by omega⟩
      · cases h
    · cases h
  · cases h
end Go.VC
end
section
namespace Go.VC
open Go
variable {P : Program} {w0 w w' : World} {M : Nat → Prop} {ρ ρ' : Env} {ch ch' : List Chunk} {tt : TypeId → Option TI}
structure Contract where
  own : List Bool
  plain : Bool
  spec : List AV → List Chunk → (AV → List Chunk → Prop) → Prop
def PlainD : D → Prop
  | .v _ => True
  | .sl .. => False
def PlainA : A → Prop
  | .d x => PlainD x
  | .dptr _ => False
  | _ => True
def PlainAV : AV → Prop
  | .s a => PlainA a
  | .g as => ∀ a ∈ as, PlainA a
  | .t xs => ∀ x ∈ xs, match x with
    | .s a => PlainA a
    | .g as => ∀ a ∈ as, PlainA a
    | _ => True
  | .u => True
def PlainCh : Chunk → Prop
  | .box cells => ∀ a ∈ cells, PlainA a
  | .sl _ _ es => ∀ e ∈ es, ∀ d ∈ e, PlainD d
  | .fz .. => False
  | .dead => True
def VArgs (w : World) (ρ : Env) (ch : List Chunk) (args : List AV) (vals : Array Value) : Prop :=
  vals.size = args.length ∧ ∀ (j : Nat) (a : AV), args[j]? = some a → ∃ v, vals[j]? = some v ∧ VAV w ρ ch a v
def Post (w : World) (ρ : Env) (ch : List Chunk) (plain : Bool) (K : AV → List Chunk → Prop) (e : Ending) (w' : World) : Prop :=
  ∃ v av ρ' ch', e = .returned v ∧ K av ch' ∧ Rep w (OwnC ρ ch) ρ' ch' w' ∧ VAV w' ρ' ch' av v ∧ Ext w ρ ch w' ρ' ch' ∧ (plain = true → PlainAV av ∧ ∀ k ∈ ch', PlainCh k)
structure Wd where
  p : World → (Nat → Prop) → Prop
  keep : ∀ w O w' O', p w O → Keeps w O w' O' → p w' O'
def Sound (P : Program) (G : Wd) (f : FuncId) (C : Contract) : Prop :=
  ∀ (w : World) (ρ : Env) (ch : List Chunk) (args : List AV) (vals : Array Value) (K : AV → List Chunk → Prop),
    Rep w (OwnC ρ ch) ρ ch w → G.p w (Own ρ ch) → VArgs w ρ ch args vals → C.spec args ch K → Calls P f vals w (Post w ρ ch C.plain K)
def refA : A → List Nat
  | .own c => [c]
  | .ptr c _ => [c]
  | .fn _ caps => caps
  | _ => []
def argRefs : Bool → AV → List Nat
  | true, .s a => refA a
  | true, .g as => as.flatMap refA
  | false, .s (.ptr c _) => [c]
  | false, .s (.fn _ caps) => caps
  | _, _ => []
def allRefs : List Bool → List AV → List Nat
  | _, [] => []
  | [], a :: as => argRefs false a ++ allRefs [] as
  | m :: ms, a :: as => argRefs m a ++ allRefs ms as
def closeRefs (ch : List Chunk) : Nat → List Nat → List Nat → List Nat
  | 0, _, done => done
  | _ + 1, [], done => done
  | n + 1, c :: todo, done => match done.contains c with
    | true => closeRefs ch n todo done
    | false => match ch.getD c .dead with
      | .box cells => closeRefs ch n (cells.flatMap refA ++ todo) (done ++ [c])
      | .sl .. => closeRefs ch n todo (done ++ [c])
      | _ => closeRefs ch n todo done
def idx (order : List Nat) (c : Nat) : Option Nat := match order with
  | [] => none
  | x :: xs => match Nat.beq x c with
    | true => some 0
    | false => match idx xs c with
      | some i => some (i + 1)
      | none => none
def idxs (order : List Nat) : List Nat → Option (List Nat)
  | [] => some []
  | c :: cs => match idx order c with
    | some i => match idxs order cs with
      | some is => some (i :: is)
      | none => none
    | none => none
def renA (ch : List Chunk) (order : List Nat) : A → A
  | .own c => match idx order c with
    | some i => .own i
    | none => match ch.getD c .dead with
      | .sl nf wd es => .d (.sl nf wd es)
      | .fz nf wd es => .d (.sl nf wd es)
      | _ => .junk
  | .ptr c off => match idx order c with
    | some i => .ptr i off
    | none => .junk
  | .fn f caps => match idxs order caps with
    | some is => .fn f is
    | none => .junk
  | .eptr .. => .junk
  | a => a
def renAV (ch : List Chunk) (order : List Nat) : AV → AV
  | .s a => .s (renA ch order a)
  | .g as => .g (as.map (renA ch order))
  | _ => .u
def renCh (ch : List Chunk) (order : List Nat) : Chunk → Chunk
  | .box cells => .box (cells.map (renA ch order))
  | k => k
def locals (ch : List Chunk) (order : List Nat) : List Chunk := order.map fun c => renCh ch order (ch.getD c .dead)
def backId (order : List Nat) (base : Nat) (i : Nat) : Nat := match order[i]? with
  | some c => c
  | none => base + (i - order.length)
def backA (order : List Nat) (base : Nat) : A → A
  | .own i => .own (backId order base i)
  | .ptr i off => .ptr (backId order base i) off
  | .eptr i j off => .eptr (backId order base i) j off
  | .fn f caps => .fn f (caps.map (backId order base))
  | a => a
def backAV (order : List Nat) (base : Nat) : AV → AV
  | .s a => .s (backA order base a)
  | .g as => .g (as.map (backA order base))
  | .t xs => .t (xs.map fun x => match x with
    | .s a => .s (backA order base a)
    | .g as => .g (as.map (backA order base))
    | y => y)
  | .u => .u
def backCh (order : List Nat) (base : Nat) : Chunk → Chunk
  | .box cells => .box (cells.map (backA order base))
  | k => k
def putBack (ch : List Chunk) (base : Nat) (order0 : List Nat) : List Nat → List Chunk → List Chunk
  | c :: cs, k :: ks => putBack (ch.set c (backCh order0 base k)) base order0 cs ks
  | _, _ => ch
def merge (ch : List Chunk) (order : List Nat) (chl' : List Chunk) : List Chunk :=
  putBack ch ch.length order order chl' ++ (chl'.drop order.length).map (backCh order ch.length)
def dataRefs (order : List Nat) (args : List AV) (ch : List Chunk) : List Nat :=
  ((args.flatMap fun x => match x with
    | .s a => refA a
    | .g as => as.flatMap refA
    | _ => []) ++ (order.flatMap fun c => match ch.getD c .dead with
      | .box cells => cells.flatMap refA
      | _ => [])).filter fun c => !order.contains c
def acall (C : Contract) (ch : List Chunk) (args : List AV) (K : AV → List Chunk → Prop) : Prop :=
  let order := closeRefs ch (4 * ch.length + 8) (allRefs C.own args) []
  let ch1 := match C.plain with
    | true => ch
    | false => freezeAll ch (dataRefs order args ch)
  C.spec (args.map (renAV ch1 order)) (locals ch1 order) fun av chl' => K (backAV order ch1.length av) (merge ch1 order chl')
theorem closeRefs_nodup (ch : List Chunk) : ∀ (n : Nat) (todo done : List Nat), done.Nodup → (∀ c ∈ done, ∃ k, ch[c]? = some k ∧ k.isOwn = true) →
    (closeRefs ch n todo done).Nodup ∧ ∀ c ∈ closeRefs ch n todo done, ∃ k, ch[c]? = some k ∧ k.isOwn = true := by
  intro n
  induction n with
  | zero => intro todo done h1 h2; exact ⟨h1, h2⟩
  | succ n ih =>
    intro todo done h1 h2
    cases todo with
    | nil => exact ⟨h1, h2⟩
    | cons c todo =>
      simp only [closeRefs]
      split
      · exact ih _ _ h1 h2
      · rename_i hc
        have hnd : (done ++ [c]).Nodup := by
          rw [List.nodup_append]
          refine ⟨h1, by simp, fun a ha b hb => ?_⟩
          simp at hb; subst hb
          rintro rfl
          simp at hc; exact hc ha
        split
        · rename_i cells hg
          exact ih _ _ hnd (fun x hx => by
            rcases List.mem_append.1 hx with h | h
            · exact h2 x h
            · simp at h; subst h; exact ⟨_, getD_some hg (by simp), rfl⟩)
        · rename_i hg
          exact ih _ _ hnd (fun x hx => by
            rcases List.mem_append.1 hx with h | h
            · exact h2 x h
            · simp at h; subst h; exact ⟨_, getD_some hg (by simp), rfl⟩)
        · exact ih _ _ h1 h2
theorem idx_some {order : List Nat} : ∀ {c i : Nat}, idx order c = some i → order[i]? = some c := by
  induction order with
  | nil => intro c i h; simp [idx] at h
  | cons x xs ih =>
    intro c i h
    simp only [idx] at h
    split at h
    · rename_i hb
      cases h
      have := Nat.eq_of_beq_eq_true hb
      simp [this]
    · split at h
      · rename_i j hj
        cases h
        simpa using ih hj
      · cases h
theorem idx_none {order : List Nat} : ∀ {c : Nat}, idx order c = none → c ∉ order := by
  induction order with
  | nil => intro c _; simp
  | cons x xs ih =>
    intro c h
    simp only [idx] at h
    split at h
    · cases h
    · rename_i hb
      split at h
      · cases h
      · rename_i hj
        have := Nat.ne_of_beq_eq_false hb
        simp only [List.mem_cons, not_or]
        exact ⟨fun e => this e.symm, ih hj⟩
theorem idxs_some {order : List Nat} : ∀ {cs is : List Nat}, idxs order cs = some is → is.length = cs.length ∧ ∀ (j i : Nat), is[j]? = some i → ∃ c, cs[j]? = some c ∧ order[i]? = some c := by
  intro cs
  induction cs with
  | nil => intro is h; cases h; exact ⟨rfl, by simp⟩
  | cons c cs ih =>
    intro is h
    simp only [idxs] at h
    split at h
    · rename_i i hi
      split at h
      · rename_i is' his
        cases h
        obtain ⟨h1, h2⟩ := ih his
        refine ⟨by simp [h1], fun j i' hj => ?_⟩
        cases j with
        | zero => simp at hj; subst hj; exact ⟨c, rfl, idx_some hi⟩
        | succ j => simpa using h2 j i' (by simpa using hj)
      · cases h
    · cases h
end Go.VC
end
section
namespace Go.VC
open Go
variable {P : Program} {w0 w w' : World} {M : Nat → Prop} {ρ ρ' : Env} {ch ch' : List Chunk} {tt : TypeId → Option TI}
theorem own_rd (hR : Rep w0 M ρ ch w) {c : Nat} {nf : Option Bool} {wd : Nat} {es : List (List D)} (hc : ch[c]? = some (.sl nf wd es)) {v : Value} (hv : VA w ρ ch (.own c) v)
    {O' : Nat → Prop} (hK : Keeps w (Own ρ ch) w O') (hO : ∀ b, ρ c = some b → ¬ O' b) : Rd w O' (.sl nf wd es) v := by
  obtain ⟨hw, h2⟩ := hR.chunk c _ hc
  simp only [VA, hc] at hv
  rcases h2 with ⟨hn, rfl, hnf⟩ | ⟨b, cur, t, fr, cap, hb, hnf, hh, hu, hs, hl, hcell⟩
  · rcases hv with ⟨_, rfl⟩ | ⟨b, cap, cur, t, fr, hb, _⟩
    · exact .nil _ _ hnf
    · rw [hn] at hb; cases hb
  · rcases hv with ⟨hn, _⟩ | ⟨b', cap', cur', t', fr', hb', rfl, hh', hs', hl'⟩
    · rw [hn] at hb; cases hb
    · rw [hb] at hb'; cases hb'
      rw [hh] at hh'; cases hh'
      refine .sl nf wd es b 0 cap' (fun i j => (cur[i * wd + j]?).getD undef) hnf hl' hw (fun i j d hd => ⟨hO b hb, ?_⟩) (fun i j d hd => ?_)
      · obtain ⟨x, hx, _⟩ := hcell i j d hd
        simp [World.cell?, hh, hx]
      · obtain ⟨x, hx, hd'⟩ := hcell i j d hd
        rw [hx]
        exact Rd.keep hK hd'
def loc (ρ : Env) (ch : List Chunk) (order dp : List Nat) : Env :=
  ⟨fun i => (order[i]?).bind fun c => ρ c, fun b => ρ.X b ∨ ∃ (c : Nat) (k : Chunk), ch[c]? = some k ∧ k.isOwn = true ∧ ρ c = some b ∧ c ∉ order ∧ c ∉ dp⟩
theorem loc_get {order dp : List Nat} {i c : Nat} (h : order[i]? = some c) : loc ρ ch order dp i = ρ c := by
  show (order[i]?).bind (fun c => ρ c) = ρ c
  rw [h]; rfl
structure Good (ch : List Chunk) (order : List Nat) : Prop where
  nodup : order.Nodup
  own : ∀ c ∈ order, ∃ k, ch[c]? = some k ∧ k.isOwn = true
theorem locals_get {order : List Nat} {i c : Nat} {k : Chunk} (h : order[i]? = some c) (hk : ch[c]? = some k) : (locals ch order)[i]? = some (renCh ch order k) := by
  simp [locals, h, List.getD_eq_getElem?_getD, hk]
theorem locals_inv {order : List Nat} (hg : Good ch order) {i : Nat} {k : Chunk} (h : (locals ch order)[i]? = some k) : ∃ c k0, order[i]? = some c ∧ ch[c]? = some k0 ∧ k0.isOwn = true ∧ k = renCh ch order k0 := by
  simp only [locals, List.getElem?_map] at h
  cases hc : order[i]? with
  | none => simp [hc] at h
  | some c =>
    obtain ⟨k0, h1, h2⟩ := hg.own c (List.mem_of_getElem? hc)
    simp [hc, List.getD_eq_getElem?_getD, h1] at h
    exact ⟨c, k0, rfl, h1, h2, h.symm⟩
theorem renCh_own {order : List Nat} {k : Chunk} : (renCh ch order k).isOwn = k.isOwn := by cases k <;> rfl
theorem locals_length {order : List Nat} : (locals ch order).length = order.length := by simp [locals]
theorem loc_ownC {order dp : List Nat} (hg : Good ch order) {b : Nat} (h : OwnC (loc ρ ch order dp) (locals ch order) b) : ∃ c k, c ∈ order ∧ ch[c]? = some k ∧ k.isOwn = true ∧ ρ c = some b := by
  obtain ⟨i, k, hk, ho, hr⟩ := h
  obtain ⟨c, k0, h1, h2, h3, rfl⟩ := locals_inv hg hk
  rw [loc_get h1] at hr
  exact ⟨c, k0, List.mem_of_getElem? h1, h2, h3, hr⟩
theorem loc_own {order dp : List Nat} (hg : Good ch order) {b : Nat} (h : Own (loc ρ ch order dp) (locals ch order) b) : Own ρ ch b := by
  rcases h with (h | ⟨c, k, h1, h2, h3, _⟩) | h
  · exact .inl h
  · exact .inr ⟨c, k, h1, h2, h3⟩
  · obtain ⟨c, k, _, h1, h2, h3⟩ := loc_ownC hg h
    exact .inr ⟨c, k, h1, h2, h3⟩
theorem loc_keeps {order dp : List Nat} (hg : Good ch order) : Keeps w (Own ρ ch) w (Own (loc ρ ch order dp) (locals ch order)) :=
  fun _ _ h => ⟨rfl, fun h' => h (loc_own hg h')⟩
theorem loc_notOwn {order dp : List Nat} (hR : Rep w0 M ρ ch w) (hg : Good ch order) {c : Nat} {k : Chunk} (hc : ch[c]? = some k) (ho : k.isOwn = true) (hn : c ∉ order) (hd : c ∈ dp) {b : Nat} (hb : ρ c = some b) : ¬ Own (loc ρ ch order dp) (locals ch order) b := by
  rintro ((h | ⟨c', k', h1, h2, h3, h4, h5⟩) | h)
  · exact hR.notX hc ho hb h
  · exact h5 (hR.inj c c' k k' b hc h1 ho h2 hb h3 ▸ hd)
  · obtain ⟨c', k', hm, h1, h2, h3⟩ := loc_ownC hg h
    exact hn (hR.inj c c' k k' b hc h1 ho h2 hb h3 ▸ hm)
theorem renA_ok {order dp : List Nat} (hR : Rep w0 M ρ ch w) (hg : Good ch order) {a : A} (hd : ∀ c nf wd es, a = .own c → ch[c]? = some (.sl nf wd es) → c ∉ order → c ∈ dp) {v : Value} (hv : VA w ρ ch a v) :
    VA w (loc ρ ch order dp) (locals ch order) (renA ch order a) v := by
  have hone := VA.oneCell hv
  cases a with
  | d x => exact Rd.keep (loc_keeps hg) hv
  | own c =>
    simp only [renA]
    cases hi : idx order c with
    | some i =>
      have ho := idx_some hi
      obtain ⟨k, hk, hok⟩ := hg.own c (List.mem_of_getElem? ho)
      simp only [VA, locals_get ho hk]
      simp only [VA, hk] at hv
      cases k with
      | box cells => exact hone
      | sl nf wd es =>
        simp only [renCh]
        rw [loc_get ho]; exact hv
      | fz => simp [Chunk.isOwn] at hok
      | dead => simp [Chunk.isOwn] at hok
    | none =>
      have hn := idx_none hi
      simp only
      split
      · rename_i nf wd es hgd
        have hc := getD_some hgd (by simp)
        exact own_rd hR hc hv (loc_keeps hg) (fun b hb => loc_notOwn hR hg hc rfl hn (hd c _ _ _ rfl hc hn) hb)
      · rename_i nf wd es hgd
        have hc := getD_some hgd (by simp)
        simp only [VA, hc] at hv
        exact Rd.keep (loc_keeps hg) hv
      · exact hone
  | ptr c off =>
    simp only [renA]
    cases hi : idx order c with
    | some i =>
      have ho := idx_some hi
      obtain ⟨_, b, hb, rfl⟩ := hv
      exact ⟨by rw [locals_length]; exact (List.getElem?_eq_some_iff.1 ho).1, b, by rw [loc_get ho]; exact hb, rfl⟩
    | none => exact hone
  | eptr c i off => exact hone
  | dptr cells =>
    obtain ⟨b, off, rfl, hc⟩ := hv
    refine ⟨b, off, rfl, fun j d hj => ?_⟩
    obtain ⟨hO, x, hx, hr⟩ := hc j d hj
    exact ⟨fun h => hO (loc_own hg h), x, hx, Rd.keep (loc_keeps hg) hr⟩
  | fn f caps =>
    simp only [renA]
    cases hi : idxs order caps with
    | some is =>
      obtain ⟨hl, hj⟩ := idxs_some hi
      obtain ⟨_, bs, h1, h2, rfl⟩ := hv
      refine ⟨fun i him => ?_, bs, h1.trans hl.symm, fun j i hji => ?_, rfl⟩
      · obtain ⟨j, hji⟩ := List.getElem?_of_mem him
        obtain ⟨c, _, h4⟩ := hj j i hji
        rw [locals_length]; exact (List.getElem?_eq_some_iff.1 h4).1
      · obtain ⟨c, h3, h4⟩ := hj j i hji
        rw [loc_get h4]; exact h2 j c h3
    | none => exact hone
  | junk => exact hone
theorem renAV_ok {order dp : List Nat} (hR : Rep w0 M ρ ch w) (hg : Good ch order) {x : AV} (hd : ∀ c nf wd es, (x = .s (.own c) ∨ ∃ as, x = .g as ∧ .own c ∈ as) → ch[c]? = some (.sl nf wd es) → c ∉ order → c ∈ dp) {v : Value} (hv : VAV w ρ ch x v) :
    VAV w (loc ρ ch order dp) (locals ch order) (renAV ch order x) v := by
  cases x with
  | s a => exact renA_ok hR hg (fun c _ _ _ hc => hd c _ _ _ (.inl (by rw [hc]))) hv
  | g as =>
    obtain ⟨vs, rfl, hs, hj⟩ := hv
    refine ⟨vs, rfl, by simpa using hs, fun j a ha => ?_⟩
    rw [List.getElem?_map] at ha
    cases hq : as[j]? with
    | none => simp [hq] at ha
    | some a0 =>
      simp [hq] at ha; subst ha
      obtain ⟨y, hy, hva⟩ := hj j a0 hq
      exact ⟨y, hy, renA_ok hR hg (fun c _ _ _ hc => hd c _ _ _ (.inr ⟨as, rfl, hc ▸ List.mem_of_getElem? hq⟩)) hva⟩
  | t xs => trivial
  | u => trivial
theorem loc_rep {order dp : List Nat} (hR : Rep w0 M ρ ch w) (hg : Good ch order) (hd : ∀ c cells c' nf wd es, c ∈ order → ch[c]? = some (.box cells) → .own c' ∈ cells → ch[c']? = some (.sl nf wd es) → c' ∉ order → c' ∈ dp) :
    Rep w (OwnC (loc ρ ch order dp) (locals ch order)) (loc ρ ch order dp) (locals ch order) w := by
  refine ⟨WOk.refl _ _, fun i k hk => ?_, fun i j k k' b hk hk' ho ho' hb hb' => ?_, fun i k b hk ho hb => .inr ⟨i, k, hk, ho, hb⟩, fun b hb => ?_⟩
  · obtain ⟨c, k0, h1, h2, h3, rfl⟩ := locals_inv hg hk
    rw [loc_get h1]
    have hh := hR.chunk c k0 h2
    cases k0 with
    | box cells =>
      obtain ⟨b, cur, t, fr, hb, hh, hu, hs, hc⟩ := hh
      refine ⟨b, cur, t, fr, hb, hh, hu, by simpa using hs, fun j a ha => ?_⟩
      rw [List.getElem?_map] at ha
      cases hq : cells[j]? with
      | none => simp [hq] at ha
      | some a0 =>
        simp [hq] at ha; subst ha
        obtain ⟨y, hy, hva⟩ := hc j a0 hq
        exact ⟨y, hy, renA_ok hR hg (fun c' _ _ _ hc' => hd c cells c' _ _ _ (List.mem_of_getElem? h1) h2 (hc' ▸ List.mem_of_getElem? hq)) hva⟩
    | sl nf wd es =>
      obtain ⟨hw, h4⟩ := hh
      refine ⟨hw, ?_⟩
      rcases h4 with h4 | ⟨b, cur, t, fr, cap, hb, hn, hh, hu, hs, hl, hc⟩
      · exact .inl h4
      · exact .inr ⟨b, cur, t, fr, cap, hb, hn, hh, hu, hs, hl, fun i j d hd => let ⟨x, hx, hr⟩ := hc i j d hd; ⟨x, hx, Rd.keep (loc_keeps hg) hr⟩⟩
    | fz => simp [Chunk.isOwn] at h3
    | dead => simp [Chunk.isOwn] at h3
  · obtain ⟨c, k0, h1, h2, h3, rfl⟩ := locals_inv hg hk
    obtain ⟨c', k0', h1', h2', h3', rfl⟩ := locals_inv hg hk'
    rw [loc_get h1] at hb
    rw [loc_get h1'] at hb'
    have := hR.inj c c' k0 k0' b h2 h2' h3 h3' hb hb'
    subst this
    have hl := (List.getElem?_eq_some_iff.1 h1).1
    exact (List.getElem?_inj hl hg.nodup).1 (h1.trans h1'.symm)
  · rcases hb with hb | ⟨c, k, h1, h2, h3, h4, h5⟩
    · obtain ⟨g1, g2⟩ := hR.far b hb
      refine ⟨Nat.lt_of_lt_of_le g1 hR.wok.size, fun h => ?_⟩
      obtain ⟨c, k, _, h1, h2, h3⟩ := loc_ownC hg h
      exact hR.notX h1 h2 h3 hb
    · refine ⟨hR.lt ⟨c, k, h1, h2, h3⟩, fun h => ?_⟩
      obtain ⟨c', k', hm, h1', h2', h3'⟩ := loc_ownC hg h
      exact h4 (hR.inj c c' k k' b h1 h1' h2 h2' h3 h3' ▸ hm)
end Go.VC
end
