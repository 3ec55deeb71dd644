/- The verified condition generator: definitions and lemmas about the model; no program in sight. Conditions: none beyond what each theorem states. -/
import Derived.Test.YtagnaoagicgmeaaDoorVc0
import Derived.Orders
set_option linter.all false
section
namespace Go.VC
open Go
variable {P : Program} {w0 w w' : World} {M : Nat → Prop} {ρ ρ' : Env} {ch ch' : List Chunk} {tt : TypeId → Option TI}
theorem putBack_length (base : Nat) (o : List Nat) : ∀ (cs : List Nat) (ks ch : List Chunk), (putBack ch base o cs ks).length = ch.length := by
  intro cs
  induction cs with
  | nil => intro ks ch; cases ks <;> rfl
  | cons c cs ih =>
    intro ks ch
    cases ks with
    | nil => rfl
    | cons k ks => simp only [putBack]; rw [ih]; simp
theorem putBack_other (base : Nat) (o : List Nat) : ∀ (cs : List Nat) (ks ch : List Chunk) {c : Nat}, c ∉ cs → (putBack ch base o cs ks)[c]? = ch[c]? := by
  intro cs
  induction cs with
  | nil => intro ks ch c _; cases ks <;> rfl
  | cons c' cs ih =>
    intro ks ch c hc
    cases ks with
    | nil => rfl
    | cons k ks =>
      simp only [putBack]
      simp only [List.mem_cons, not_or] at hc
      rw [ih ks _ hc.2, List.getElem?_set, if_neg (fun e => hc.1 e.symm)]
theorem putBack_at (base : Nat) (o : List Nat) : ∀ (cs : List Nat) (ks ch : List Chunk) {i c : Nat} {k : Chunk}, cs.Nodup → cs[i]? = some c → ks[i]? = some k → c < ch.length → (putBack ch base o cs ks)[c]? = some (backCh o base k) := by
  intro cs
  induction cs with
  | nil => intro ks ch i c k _ h; simp at h
  | cons c' cs ih =>
    intro ks ch i c k hn hc hk hl
    cases ks with
    | nil => simp at hk
    | cons k' ks =>
      simp only [putBack]
      rw [List.nodup_cons] at hn
      cases i with
      | zero =>
        simp at hc hk; subst hc hk
        rw [putBack_other base o cs ks _ hn.1]
        simp [hl]
      | succ i => exact ih ks _ hn.2 (by simpa using hc) (by simpa using hk) (by simpa using hl)
def ret (ρ ρl' : Env) (n m : Nat) : Env := ⟨fun c => if c < n then ρ c else ρl' (c - n + m), ρ.X⟩
section
variable {order dp : List Nat} {ρl' : Env} {chl' : List Chunk}
structure Back (w0 : World) (M : Nat → Prop) (ρ : Env) (ch : List Chunk) (w : World) (order dp : List Nat) (w' : World) (ρl' : Env) (chl' : List Chunk) : Prop where
  hR : Rep w0 M ρ ch w
  hg : Good ch order
  hR' : Rep w (OwnC (loc ρ ch order dp) (locals ch order)) ρl' chl' w'
  hE' : Ext w (loc ρ ch order dp) (locals ch order) w' ρl' chl'
  hdp : dp = [] ∨ ∀ k ∈ chl', PlainCh k
theorem Back.len (B : Back w0 M ρ ch w order dp w' ρl' chl') : order.length ≤ chl'.length := by
  have := B.hE'.le; rwa [locals_length] at this
theorem Back.get (B : Back w0 M ρ ch w order dp w' ρl' chl') {c : Nat} {k : Chunk} (h : (merge ch order chl')[c]? = some k) :
    (∃ (i : Nat) (k' : Chunk), order[i]? = some c ∧ chl'[i]? = some k' ∧ k = backCh order ch.length k') ∨ (c < ch.length ∧ c ∉ order ∧ ch[c]? = some k) ∨
    (ch.length ≤ c ∧ ∃ k', chl'[c - ch.length + order.length]? = some k' ∧ k = backCh order ch.length k') := by
  have hpl : (putBack ch ch.length order order chl').length = ch.length := putBack_length _ _ _ _ _
  simp only [merge] at h
  rcases Nat.lt_or_ge c ch.length with hl | hl
  · rw [List.getElem?_append_left (by omega)] at h
    by_cases hc : c ∈ order
    · obtain ⟨i, hi⟩ := List.getElem?_of_mem hc
      have hil := (List.getElem?_eq_some_iff.1 hi).1
      have hil' : i < chl'.length := Nat.lt_of_lt_of_le hil B.len
      have hk : chl'[i]? = some chl'[i] := List.getElem?_eq_getElem hil'
      rw [putBack_at _ _ _ _ _ B.hg.nodup hi hk hl] at h
      cases h
      exact .inl ⟨i, _, hi, hk, rfl⟩
    · rw [putBack_other _ _ _ _ _ hc] at h
      exact .inr (.inl ⟨hl, hc, h⟩)
  · rw [List.getElem?_append_right (by omega), hpl, List.getElem?_map, List.getElem?_drop] at h
    right; right
    refine ⟨hl, ?_⟩
    rw [Nat.add_comm] at h
    cases hk : chl'[c - ch.length + order.length]? with
    | none => simp [hk] at h
    | some k' => simp [hk] at h; exact ⟨k', rfl, h.symm⟩
theorem Back.at_id (B : Back w0 M ρ ch w order dp w' ρl' chl') {i : Nat} {k : Chunk} (h : chl'[i]? = some k) :
    (merge ch order chl')[backId order ch.length i]? = some (backCh order ch.length k) ∧ ret ρ ρl' ch.length order.length (backId order ch.length i) = ρl' i := by
  have hpl : (putBack ch ch.length order order chl').length = ch.length := putBack_length _ _ _ _ _
  unfold backId
  cases ho : order[i]? with
  | some c =>
    simp only
    obtain ⟨k0, h1, _⟩ := B.hg.own c (List.mem_of_getElem? ho)
    have hl := (List.getElem?_eq_some_iff.1 h1).1
    refine ⟨?_, ?_⟩
    · simp only [merge]
      rw [List.getElem?_append_left (by omega)]
      exact putBack_at _ _ _ _ _ B.hg.nodup ho h hl
    · show (if c < ch.length then ρ c else _) = _
      rw [if_pos hl, B.hE'.rho i (by rw [locals_length]; exact (List.getElem?_eq_some_iff.1 ho).1), loc_get ho]
  | none =>
    simp only
    have hil : order.length ≤ i := List.getElem?_eq_none_iff.1 ho
    refine ⟨?_, ?_⟩
    · simp only [merge]
      rw [List.getElem?_append_right (by omega), hpl, List.getElem?_map, List.getElem?_drop]
      rw [show order.length + (ch.length + (i - order.length) - ch.length) = i by omega, h]; rfl
    · show (if ch.length + (i - order.length) < ch.length then _ else _) = _
      rw [if_neg (by omega)]
      rw [show ch.length + (i - order.length) - ch.length + order.length = i by omega]
theorem backCh_own {k : Chunk} {n : Nat} : (backCh order n k).isOwn = k.isOwn := by cases k <;> rfl
theorem Back.own (B : Back w0 M ρ ch w order dp w' ρl' chl') {b : Nat} (h : Own (ret ρ ρl' ch.length order.length) (merge ch order chl') b) :
    Own ρl' chl' b ∨ ∃ c k, c ∉ order ∧ c ∈ dp ∧ ch[c]? = some k ∧ k.isOwn = true ∧ ρ c = some b := by
  have hX : ∀ b, (loc ρ ch order dp).X b → ρl'.X b := by intro b hb; rw [B.hE'.far]; exact hb
  rcases h with h | ⟨c, k, hk, ho, hr⟩
  · exact .inl (.inl (hX b (.inl h)))
  · rcases B.get hk with ⟨i, k', hi, hk', rfl⟩ | ⟨hl, hn, hc⟩ | ⟨hl, k', hk', rfl⟩
    · have := (B.at_id hk').2
      have hbi : backId order ch.length i = c := by simp [backId, hi]
      rw [hbi] at this
      rw [this] at hr
      rw [backCh_own] at ho
      exact .inl (.inr ⟨i, k', hk', ho, hr⟩)
    · have hr' : ρ c = some b := by
        have : ret ρ ρl' ch.length order.length c = ρ c := by show (if c < ch.length then ρ c else _) = _; rw [if_pos hl]
        rw [← this]; exact hr
      by_cases hd : c ∈ dp
      · exact .inr ⟨c, k, hn, hd, hc, ho, hr'⟩
      · exact .inl (.inl (hX b (.inr ⟨c, k, hc, ho, hr', hn, hd⟩)))
    · have : ret ρ ρl' ch.length order.length c = ρl' (c - ch.length + order.length) := by show (if c < ch.length then ρ c else _) = _; rw [if_neg (by omega)]
      rw [this] at hr
      rw [backCh_own] at ho
      exact .inl (.inr ⟨_, k', hk', ho, hr⟩)
theorem Back.rd (B : Back w0 M ρ ch w order dp w' ρl' chl') {d : D} {v : Value} (hp : dp = [] ∨ PlainD d) (h : Rd w' (Own ρl' chl') d v) : Rd w' (Own (ret ρ ρl' ch.length order.length) (merge ch order chl')) d v := by
  rcases hp with hp | hp
  · refine Rd.keep (fun b _ hO => ⟨rfl, fun h' => ?_⟩) h
    rcases B.own h' with h' | ⟨c, k, _, hd, _⟩
    · exact hO h'
    · rw [hp] at hd; cases hd
  · cases d with
    | v x => cases h; exact .v _ (by assumption)
    | sl => exact hp.elim
theorem Back.va (B : Back w0 M ρ ch w order dp w' ρl' chl') {a : A} {v : Value} (hp : dp = [] ∨ PlainA a) (hv : VA w' ρl' chl' a v) :
    VA w' (ret ρ ρl' ch.length order.length) (merge ch order chl') (backA order ch.length a) v := by
  have hone := VA.oneCell hv
  have hlen : ∀ {i : Nat}, i < chl'.length → backId order ch.length i < (merge ch order chl').length := by
    intro i hi
    exact (List.getElem?_eq_some_iff.1 (B.at_id (List.getElem?_eq_getElem hi)).1).1
  cases a with
  | d x => exact B.rd hp hv
  | own i =>
    cases hi : chl'[i]? with
    | none => simp [VA, hi] at hv
    | some k =>
      obtain ⟨h1, h2⟩ := B.at_id hi
      simp only [VA, hi] at hv
      simp only [backA, VA, h1]
      cases k with
      | box cells => exact hone
      | dead => exact hone
      | sl nf wd es => simp only [backCh]; rw [h2]; exact hv
      | fz nf wd es =>
        simp only [backCh]
        refine B.rd ?_ hv
        rcases B.hdp with h | h
        · exact .inl h
        · exact (h _ (List.mem_of_getElem? hi)).elim
  | ptr i off =>
    obtain ⟨hl, b, hb, rfl⟩ := hv
    exact ⟨hlen hl, b, by rw [(B.at_id (List.getElem?_eq_getElem hl)).2]; exact hb, rfl⟩
  | eptr i j off =>
    cases hi : chl'[i]? with
    | none => simp [VA, hi] at hv
    | some k =>
      obtain ⟨h1, h2⟩ := B.at_id hi
      simp only [VA, hi] at hv
      simp only [backA, VA, h1]
      cases k with
      | box cells => exact hone
      | dead => exact hone
      | sl nf wd es => simp only [backCh]; rw [h2]; exact hv
      | fz nf wd es => exact hone
  | dptr cells =>
    obtain ⟨b, off, rfl, hc⟩ := hv
    rcases hp with hp | hp
    · refine ⟨b, off, rfl, fun j d hj => ?_⟩
      obtain ⟨hO, x, hx, hr⟩ := hc j d hj
      refine ⟨fun h => ?_, x, hx, B.rd (.inl hp) hr⟩
      rcases B.own h with h' | ⟨c, k, _, hd, _⟩
      · exact hO h'
      · rw [hp] at hd; cases hd
    · exact hp.elim
  | fn f caps =>
    obtain ⟨hl, bs, h1, h2, rfl⟩ := hv
    refine ⟨fun c hc => ?_, bs, by simpa using h1, fun i c hi => ?_, rfl⟩
    · obtain ⟨i, him, rfl⟩ := List.mem_map.1 hc
      exact hlen (hl i him)
    · rw [List.getElem?_map] at hi
      cases hq : caps[i]? with
      | none => simp [hq] at hi
      | some j =>
        simp [hq] at hi; subst hi
        rw [(B.at_id (List.getElem?_eq_getElem (hl j (List.mem_of_getElem? hq)))).2]
        exact h2 i j hq
  | junk => exact hone
theorem Back.ext (B : Back w0 M ρ ch w order dp w' ρl' chl') : Ext w ρ ch w' (ret ρ ρl' ch.length order.length) (merge ch order chl') := by
  have hR := B.hR
  refine ⟨fun b hb hO => ?_, fun c hc => ?_, rfl, fun c k hk => ?_⟩
  · have hnl : ¬ Own (loc ρ ch order dp) (locals ch order) b := fun h => hO (loc_own B.hg h)
    obtain ⟨h1, h2⟩ := B.hE'.keeps b hb hnl
    refine ⟨h1, fun h => ?_⟩
    rcases B.own h with h' | ⟨c, k, _, _, h3, h4, h5⟩
    · exact h2 h'
    · exact hO (.inr ⟨c, k, h3, h4, h5⟩)
  · show (if c < ch.length then ρ c else _) = _
    rw [if_pos hc]
  · have hl := (List.getElem?_eq_some_iff.1 hk).1
    by_cases hc : c ∈ order
    · obtain ⟨i, hi⟩ := List.getElem?_of_mem hc
      have hil := (List.getElem?_eq_some_iff.1 hi).1
      obtain ⟨k0, h1, h2⟩ := B.hg.own c hc
      rw [hk] at h1; cases h1
      obtain ⟨k', hk', ht⟩ := B.hE'.turns i _ (locals_get hi hk)
      have hid : backId order ch.length i = c := by simp [backId, hi]
      obtain ⟨g1, g2⟩ := B.at_id hk'
      rw [hid] at g1
      refine ⟨_, g1, ?_⟩
      cases k with
      | box cells => cases k' <;> simp [renCh, backCh, Turns] at ht ⊢
      | sl nf wd es =>
        cases k' with
        | dead => simp [backCh, Turns]
        | box => simp [renCh, Turns] at ht
        | sl nf' wd' es' =>
          obtain ⟨h3, h4, h5⟩ := ht
          exact ⟨h3, h4, fun b cur t fr hb hh => h5 b cur t fr (by rw [loc_get hi]; exact hb) hh⟩
        | fz nf' wd' es' =>
          refine fun v hv => B.rd ?_ (ht v ?_)
          · rcases B.hdp with h | h
            · exact .inl h
            · exact (h _ (List.mem_of_getElem? hk')).elim
          · have := renA_ok (dp := dp) hR B.hg (a := .own c) (fun c' _ _ _ hc' _ hn => by cases hc'; exact absurd hc hn) hv
            have hidx : idx order c = some i := by
              cases hx : idx order c with
              | none => exact absurd hc (idx_none hx)
              | some j =>
                have := idx_some hx
                rw [(List.getElem?_inj hil B.hg.nodup).1 (hi.trans this.symm)]
            simp only [renA, hidx] at this
            exact this
      | fz => simp [Chunk.isOwn] at h2
      | dead => simp [Chunk.isOwn] at h2
    · have hpl : (putBack ch ch.length order order chl').length = ch.length := putBack_length _ _ _ _ _
      refine ⟨k, by simp only [merge]; rw [List.getElem?_append_left (by omega), putBack_other _ _ _ _ _ hc]; exact hk, ?_⟩
      cases k with
      | box => simp [Turns]
      | dead => simp [Turns]
      | fz => simp [Turns]
      | sl nf wd es =>
        refine ⟨rfl, rfl, fun b cur t fr hb hh => ⟨cur, t, fr, ?_, rfl⟩⟩
        have hlt : b < w.heap.size := (Array.getElem?_eq_some_iff.1 hh).1
        rw [← hh]
        refine B.hR'.wok.block b hlt (fun h => ?_)
        obtain ⟨c', k', hm, h1, h2, h3⟩ := loc_ownC B.hg h
        exact hc (hR.inj c c' _ k' b hk h1 rfl h2 hb h3 ▸ hm)
theorem Back.rep (B : Back w0 M ρ ch w order dp w' ρl' chl') : Rep w0 M (ret ρ ρl' ch.length order.length) (merge ch order chl') w' := by
  have hR := B.hR
  have hR' := B.hR'
  have hE := B.ext
  have hpl : ∀ {k : Chunk}, k ∈ chl' → dp = [] ∨ PlainCh k := fun hk => B.hdp.imp id (fun h => h _ hk)
  have chunk : ∀ {i : Nat} {k : Chunk}, chl'[i]? = some k → ChunkRep w' (ret ρ ρl' ch.length order.length) (merge ch order chl') (ρl' i) (backCh order ch.length k) := by
    intro i k hk
    have hh := hR'.chunk i k hk
    have hp := hpl (List.mem_of_getElem? hk)
    cases k with
    | box cells =>
      obtain ⟨b, cur, t, fr, hb, hh, hu, hs, hc⟩ := hh
      refine ⟨b, cur, t, fr, hb, hh, hu, by simpa using hs, fun j a ha => ?_⟩
      rw [List.getElem?_map] at ha
      cases hq : cells[j]? with
      | none => simp [hq] at ha
      | some a0 =>
        simp [hq] at ha; subst ha
        obtain ⟨y, hy, hva⟩ := hc j a0 hq
        exact ⟨y, hy, B.va (hp.imp id (fun h => h a0 (List.mem_of_getElem? hq))) hva⟩
    | sl nf wd es =>
      obtain ⟨hw, h4⟩ := hh
      refine ⟨hw, ?_⟩
      rcases h4 with h4 | ⟨b, cur, t, fr, cap, hb, hn, hh, hu, hs, hl, hc⟩
      · exact .inl h4
      · refine .inr ⟨b, cur, t, fr, cap, hb, hn, hh, hu, hs, hl, fun i j d hd => ?_⟩
        obtain ⟨x, hx, hr⟩ := hc i j d hd
        refine ⟨x, hx, B.rd (hp.imp id (fun h => ?_)) hr⟩
        obtain ⟨e, he, hj⟩ := getc_lt hd
        exact h e (List.mem_of_getElem? he) d (List.mem_of_getElem? hj)
    | fz => trivial
    | dead => trivial
  have own : ∀ {c : Nat} {k : Chunk} {b : Nat}, (merge ch order chl')[c]? = some k → k.isOwn = true → ret ρ ρl' ch.length order.length c = some b →
      (c < ch.length ∧ c ∉ order ∧ ch[c]? = some k ∧ ρ c = some b) ∨ (∃ (i : Nat) (k' : Chunk), chl'[i]? = some k' ∧ k'.isOwn = true ∧ ρl' i = some b ∧ backId order ch.length i = c) := by
    intro c k b hk ho hb
    rcases B.get hk with ⟨i, k', hi, hk', rfl⟩ | ⟨hl, hn, hc⟩ | ⟨hl, k', hk', rfl⟩
    · have hid : backId order ch.length i = c := by simp [backId, hi]
      rw [← hid, (B.at_id hk').2] at hb
      exact .inr ⟨i, k', hk', by rwa [backCh_own] at ho, hb, hid⟩
    · have : ret ρ ρl' ch.length order.length c = ρ c := by show (if c < ch.length then ρ c else _) = _; rw [if_pos hl]
      exact .inl ⟨hl, hn, hc, by rw [← this]; exact hb⟩
    · have : ret ρ ρl' ch.length order.length c = ρl' (c - ch.length + order.length) := by show (if c < ch.length then ρ c else _) = _; rw [if_neg (by omega)]
      refine .inr ⟨c - ch.length + order.length, k', hk', by rwa [backCh_own] at ho, by rw [← this]; exact hb, ?_⟩
      have : order[c - ch.length + order.length]? = none := List.getElem?_eq_none (by omega)
      simp only [backId, this]; omega
  have apart : ∀ {c i : Nat} {k k' : Chunk} {b : Nat}, c ∉ order → ch[c]? = some k → k.isOwn = true → ρ c = some b → chl'[i]? = some k' → k'.isOwn = true → ρl' i = some b → False := by
    intro c i k k' b hn hc ho hb hi ho' hb'
    rcases hR'.new i k' b hi ho' hb' with h | h
    · have := hR.lt ⟨c, k, hc, ho, hb⟩; omega
    · obtain ⟨c', k'', hm, h1, h2, h3⟩ := loc_ownC B.hg h
      exact hn (hR.inj c c' k k'' b hc h1 ho h2 hb h3 ▸ hm)
  refine ⟨hR.wok.trans hR'.wok (fun b hb => ?_), fun c k hk => ?_, fun c c' k k' b hk hk' ho ho' hb hb' => ?_, fun c k b hk ho hb => ?_, hR.far⟩
  · obtain ⟨c, k, _, h1, h2, h3⟩ := loc_ownC B.hg hb
    exact hR.new c k b h1 h2 h3
  · rcases B.get hk with ⟨i, k', hi, hk', rfl⟩ | ⟨hl, hn, hc⟩ | ⟨hl, k', hk', rfl⟩
    · have hid : backId order ch.length i = c := by simp [backId, hi]
      have := (B.at_id hk').2
      rw [hid] at this
      rw [this]; exact chunk hk'
    · have : ret ρ ρl' ch.length order.length c = ρ c := by show (if c < ch.length then ρ c else _) = _; rw [if_pos hl]
      rw [this]
      refine ChunkRep.ext hE (fun ho b hb => hR'.wok.block b (hR.lt ⟨c, k, hc, ho, hb⟩) (fun h => ?_)) (hR.chunk c k hc)
      obtain ⟨c', k', hm, h1, h2, h3⟩ := loc_ownC B.hg h
      exact hn (hR.inj c c' k k' b hc h1 ho h2 hb h3 ▸ hm)
    · have : ret ρ ρl' ch.length order.length c = ρl' (c - ch.length + order.length) := by show (if c < ch.length then ρ c else _) = _; rw [if_neg (by omega)]
      rw [this]; exact chunk hk'
  · rcases own hk ho hb with ⟨hl, hn, hc, hr⟩ | ⟨i, k1, h1, h2, h3, h4⟩
    · rcases own hk' ho' hb' with ⟨hl', hn', hc', hr'⟩ | ⟨i', k1', h1', h2', h3', h4'⟩
      · exact hR.inj c c' k k' b hc hc' ho ho' hr hr'
      · exact (apart hn hc ho hr h1' h2' h3').elim
    · rcases own hk' ho' hb' with ⟨hl', hn', hc', hr'⟩ | ⟨i', k1', h1', h2', h3', h4'⟩
      · exact (apart hn' hc' ho' hr' h1 h2 h3).elim
      · rw [← h4, ← h4', hR'.inj i i' k1 k1' b h1 h1' h2 h2' h3 h3']
  · rcases own hk ho hb with ⟨hl, hn, hc, hr⟩ | ⟨i, k1, h1, h2, h3, h4⟩
    · exact hR.new c k b hc ho hr
    · rcases hR'.new i k1 b h1 h2 h3 with h | h
      · have := hR.wok.size; exact .inl (by omega)
      · obtain ⟨c', k'', hm, g1, g2, g3⟩ := loc_ownC B.hg h
        exact hR.new c' k'' b g1 g2 g3
end
end Go.VC
end
section
namespace Go.VC
open Go
variable {P : Program} {w0 w w' : World} {M : Nat → Prop} {ρ ρ' : Env} {ch ch' : List Chunk} {tt : TypeId → Option TI}
theorem freezeAll_other {c : Nat} (cs : List Nat) : ∀ {ch : List Chunk}, c ∉ cs → (freezeAll ch cs)[c]? = ch[c]? := by
  induction cs with
  | nil => exact fun _ => rfl
  | cons c' cs ih =>
    intro ch h
    simp only [List.mem_cons, not_or] at h
    simp only [freezeAll]
    split
    · rw [ih h.2, List.getElem?_set, if_neg (fun e => h.1 e.symm)]
    · exact ih h.2
theorem freezeAll_notSl {c : Nat} {nf : Option Bool} {wd : Nat} {es : List (List D)} {cs : List Nat} (hc : c ∈ cs) (h : (freezeAll ch cs)[c]? = some (.sl nf wd es)) : False := by
  cases hk : ch[c]? with
  | none =>
    have : (freezeAll ch cs).length = ch.length := freezeAll_length cs ch
    have h1 := (List.getElem?_eq_some_iff.1 h).1
    have h2 := List.getElem?_eq_none_iff.1 hk
    omega
  | some k =>
    have key : ∀ (cs : List Nat) (ch : List Chunk), ch[c]? = some k → (∀ nf wd es, k ≠ .sl nf wd es) → (freezeAll ch cs)[c]? = some k := by
      intro cs
      induction cs with
      | nil => exact fun _ h _ => h
      | cons c' cs ih =>
        intro ch hk hn
        simp only [freezeAll]
        split
        · rename_i nf' wd' es' hg
          refine ih _ ?_ hn
          rw [List.getElem?_set]
          split
          · rename_i he; subst he
            have := getD_some hg (by simp)
            rw [hk] at this; cases this
            exact absurd rfl (hn _ _ _)
          · exact hk
        · exact ih _ hk hn
    cases k with
    | sl nf' wd' es' => rw [freezeAll_mem cs hk hc] at h; cases h
    | box cells => rw [key cs ch hk (by simp)] at h; cases h
    | fz => rw [key cs ch hk (by simp)] at h; cases h
    | dead => rw [key cs ch hk (by simp)] at h; cases h
theorem Back.vav {order dp : List Nat} {ρl' : Env} {chl' : List Chunk} (B : Back w0 M ρ ch w order dp w' ρl' chl') {x : AV} {v : Value} (hp : dp = [] ∨ PlainAV x) (hv : VAV w' ρl' chl' x v) :
    VAV w' (ret ρ ρl' ch.length order.length) (merge ch order chl') (backAV order ch.length x) v := by
  have hgs : ∀ {as : List A} {u : Value}, (dp = [] ∨ ∀ a ∈ as, PlainA a) → VAV1 w' ρl' chl' (.g as) u → VAV1 w' (ret ρ ρl' ch.length order.length) (merge ch order chl') (.g (as.map (backA order ch.length))) u := by
    rintro as u hp ⟨vs, rfl, hs, hj⟩
    refine ⟨vs, rfl, by simpa using hs, fun j a ha => ?_⟩
    rw [List.getElem?_map] at ha
    cases hq : as[j]? with
    | none => simp [hq] at ha
    | some a0 =>
      simp [hq] at ha; subst ha
      obtain ⟨y, hy, hva⟩ := hj j a0 hq
      exact ⟨y, hy, B.va (hp.imp id (fun h => h a0 (List.mem_of_getElem? hq))) hva⟩
  cases x with
  | s a => exact B.va hp hv
  | g as => exact hgs hp hv
  | t xs =>
    obtain ⟨vs, rfl, hs, hj⟩ := hv
    refine ⟨vs, rfl, by simpa using hs, fun j a ha => ?_⟩
    rw [List.getElem?_map] at ha
    cases hq : xs[j]? with
    | none => simp [hq] at ha
    | some x0 =>
      simp [hq] at ha
      obtain ⟨y, hy, hva⟩ := hj j x0 hq
      refine ⟨y, hy, ?_⟩
      have hm := List.mem_of_getElem? hq
      cases x0 with
      | s a => subst ha; exact B.va (hp.imp id (fun h => h _ hm)) hva
      | g as => subst ha; exact hgs (hp.imp id (fun h => h _ hm)) hva
      | t ys => subst ha; trivial
      | u => subst ha; trivial
  | u => trivial
def Goes (w0 : World) (M : Nat → Prop) (ρ : Env) (ch : List Chunk) (w : World) (K : AV → List Chunk → Prop) (e : Ending) (w' : World) : Prop :=
  ∃ v av ρ' ch', e = .returned v ∧ K av ch' ∧ Rep w0 M ρ' ch' w' ∧ VAV w' ρ' ch' av v ∧ Ext w ρ ch w' ρ' ch'
theorem acall_ok {G : Wd} (hR : Rep w0 M ρ ch w) (hG : G.p w (Own ρ ch)) {args : List AV} {vals : Array Value} (ha : VArgs w ρ ch args vals) {f : FuncId} {C : Contract} (hS : Sound P G f C) {K : AV → List Chunk → Prop} (h : acall C ch args K) :
    Calls P f vals w (Goes w0 M ρ ch w K) := by
  simp only [acall] at h
  generalize ho : closeRefs ch (4 * ch.length + 8) (allRefs C.own args) [] = order at h
  have hgood : Good ch order := by
    have := closeRefs_nodup ch (4 * ch.length + 8) (allRefs C.own args) [] (by simp) (by simp)
    rw [ho] at this
    exact ⟨this.1, this.2⟩
  have main : ∀ (ch1 : List Chunk) (dp : List Nat), Rep w0 M ρ ch1 w → Ext w ρ ch w ρ ch1 → Good ch1 order →
      (∀ c nf wd es, (∃ x ∈ args, x = .s (.own c) ∨ ∃ as, x = .g as ∧ .own c ∈ as) → ch1[c]? = some (.sl nf wd es) → c ∉ order → c ∈ dp) →
      (∀ c cells c' nf wd es, c ∈ order → ch1[c]? = some (.box cells) → .own c' ∈ cells → ch1[c']? = some (.sl nf wd es) → c' ∉ order → c' ∈ dp) →
      (C.plain = true ∨ dp = []) →
      C.spec (args.map (renAV ch1 order)) (locals ch1 order) (fun av chl' => K (backAV order ch1.length av) (merge ch1 order chl')) → Calls P f vals w (Goes w0 M ρ ch w K) := by
    intro ch1 dp hR1 hE1 hg1 hd1 hd2 hpl hspec
    have hargs : VArgs w (loc ρ ch1 order dp) (locals ch1 order) (args.map (renAV ch1 order)) vals := by
      refine ⟨by simpa using ha.1, fun j x hx => ?_⟩
      rw [List.getElem?_map] at hx
      cases hq : args[j]? with
      | none => simp [hq] at hx
      | some x0 =>
        simp [hq] at hx; subst hx
        obtain ⟨v, hv, hva⟩ := ha.2 j x0 hq
        exact ⟨v, hv, renAV_ok hR1 hg1 (fun c nf wd es hc => hd1 c nf wd es ⟨x0, List.mem_of_getElem? hq, hc⟩) (VAV.ext hE1 hva)⟩
    refine (hS w (loc ρ ch1 order dp) (locals ch1 order) _ vals _ (loc_rep hR1 hg1 hd2) (G.keep _ _ _ _ (G.keep _ _ _ _ hG hE1.keeps) (loc_keeps hg1)) hargs hspec).mono ?_
    rintro e w' ⟨v, av, ρl', chl', rfl, hK, hR', hv, hE', hplain⟩
    have B : Back w0 M ρ ch1 w order dp w' ρl' chl' := ⟨hR1, hg1, hR', hE', by
      rcases hpl with hp | hp
      · exact .inr (hplain hp).2
      · exact .inl hp⟩
    refine ⟨v, _, _, _, rfl, hK, B.rep, B.vav ?_ hv, hE1.trans B.ext (Nat.le_refl _)⟩
    rcases hpl with hp | hp
    · exact .inr (hplain hp).1
    · exact .inl hp
  cases hp : C.plain with
  | true =>
    simp only [hp] at h
    refine main ch ((List.range ch.length).filter fun c => !order.contains c) hR (Ext.refl _ _ _) hgood (fun c nf wd es _ hc hn => ?_) (fun c cells c' nf wd es _ _ _ hc hn => ?_) (.inl hp) h
    · simp only [List.mem_filter, List.mem_range]
      exact ⟨(List.getElem?_eq_some_iff.1 hc).1, by simpa using hn⟩
    · simp only [List.mem_filter, List.mem_range]
      exact ⟨(List.getElem?_eq_some_iff.1 hc).1, by simpa using hn⟩
  | false =>
    simp only [hp] at h
    obtain ⟨hR1, hE1⟩ := freezeAll_rep (dataRefs order args ch) hR
    have hnot : ∀ c ∈ order, c ∉ dataRefs order args ch := by
      intro c hc hm
      simp only [dataRefs, List.mem_filter] at hm
      have := hm.2
      simp [hc] at this
    refine main _ [] hR1 hE1 ⟨hgood.nodup, fun c hc => ?_⟩ (fun c nf wd es hx hc hn => ?_) (fun c cells c' nf wd es hco hb hm hc hn => ?_) (.inr rfl) h
    · rw [freezeAll_other _ (hnot c hc)]; exact hgood.own c hc
    · exfalso
      refine freezeAll_notSl (cs := dataRefs order args ch) ?_ hc
      obtain ⟨x, hxm, hx⟩ := hx
      simp only [dataRefs, List.mem_filter, List.mem_append, List.mem_flatMap]
      refine ⟨.inl ⟨x, hxm, ?_⟩, by simpa using hn⟩
      rcases hx with rfl | ⟨as, rfl, hm⟩
      · simp [refA]
      · simp only [List.mem_flatMap]; exact ⟨_, hm, by simp [refA]⟩
    · exfalso
      refine freezeAll_notSl (cs := dataRefs order args ch) ?_ hc
      rw [freezeAll_other _ (hnot c hco)] at hb
      simp only [dataRefs, List.mem_filter, List.mem_append, List.mem_flatMap]
      refine ⟨.inr ⟨c, hco, ?_⟩, by simpa using hn⟩
      rw [List.getD_eq_getElem?_getD, hb]
      simp only [Option.getD_some, List.mem_flatMap]
      exact ⟨_, hm, by simp [refA]⟩
end Go.VC
end
section
namespace Go.VC
open Go
inductive X where
  | n
  | e (id : Nat)
  | r
abbrev KX := X → List AV → List Chunk → Prop
abbrev KS := List AV → List Chunk → Prop
structure Ctx where
  tt : TypeId → Option TI
  Γ : FuncId → Option Contract
  wr : Bool
  ord : Nat → List (Nat × Option (List Nat)) := fun _ => []
def putF (fr : List AV) (dst : Option Tmp) (x : AV) : List AV := match dst with
  | some d => fr.set d x
  | none => fr
def isSrcT : Option TI → Bool
  | some (.sl ..) => true
  | some (.one (.v (.string _))) => true
  | _ => false
def floatK (c : Ctx) (o : Oper) (fr : List AV) (ch : List Chunk) (K : KS) : Prop :=
  match fstep c.tt c.wr fr ch o.op with
  | some r => r.obl ∧ (r.obl → K (putF fr o.dst r.val) (r.ch ch))
  | none => False
def callK (c : Ctx) (f : AV) (args : List AV) (dst : Option Tmp) (fr : List AV) (ch : List Chunk) (K : KS) : Prop :=
  match f with
  | .s (.fn id caps) => match c.Γ id with
    | some C => acall C ch (args ++ caps.map fun x => .s (.ptr x 0)) fun av ch' => K (putF fr dst av) ch'
    | none => False
  | _ => False
def opX (c : Ctx) (o : Oper) (fr : List AV) (ch : List Chunk) (K : KS) : Prop :=
  match o.op with
  | .store t a v => match c.tt t with
    | some ti => match astore ch ti.zs.length (aeval fr a) (aeval fr v) with
      | some ch' => K (putF fr o.dst .u) ch'
      | none => False
    | none => False
  | .call cl => match cl.callee with
    | .builtin .append => match cl.args.toList, cl.argTypes.toList with
      | [x, y], [t0, t1] => match c.tt t0 with
        | some (.sl wd by_ _ _) => match isSrcT (c.tt t1) with
          | true => match aappend ch wd by_ (aeval fr x) (aeval fr y) with
            | some r => r.obl ∧ (r.obl → K (putF fr o.dst r.val) r.ch)
            | none => False
          | false => False
        | _ => False
      | _, _ => False
    | .value f => callK c (aeval fr f) (cl.args.toList.map (aeval fr)) o.dst fr ch K
    | _ => floatK c o fr ch K
  | _ => floatK c o fr ch K
def opG (c : Ctx) (ops : List Oper) (o : Oper) (fr : List AV) (ch : List Chunk) (K : KS) : Prop :=
  match o.guard with
  | none => opX c o fr ch K
  | some (j, want) => match (ops[j]?).bind (·.dst) with
    | some t => match fr.getD t .u with
      | .s (.d (.v (.bool b))) => (b = want → opX c o (fr.set t (vB want)) ch K) ∧ (b = !want → K (putF (fr.set t (vB !want)) o.dst .u) ch)
      | _ => False
    | none => False
def opsK (c : Ctx) (ops : List Oper) : List Oper → List AV → List Chunk → KS → Prop
  | [], fr, ch, K => K fr ch
  | o :: os, fr, ch, K => opG c ops o fr ch fun fr ch => opsK c ops os fr ch K
def pureK (c : Ctx) (o : Oper) (fr : List AV) (ch : List Chunk) (K : KS) : Prop :=
  match fstep c.tt c.wr fr ch o.op with
  | some ⟨obl, val, [], []⟩ => obl ∧ (obl → K (putF fr o.dst val) ch)
  | _ => False
def fOne (c : Ctx) (ops : List Oper) (o : Oper) (fr : List AV) (ch : List Chunk) (K : KS) : Prop :=
  match o.guard with
  | none => pureK c o fr ch K
  | some (j, want) => match (ops[j]?).bind (·.dst) with
    | some t => match fr.getD t .u with
      | .s (.d (.v (.bool b))) => (b = want → pureK c o (fr.set t (vB want)) ch K) ∧ (b = !want → K (putF (fr.set t (vB !want)) o.dst .u) ch)
      | _ => False
    | none => False
def PF (c : Ctx) (o : Oper) (fr : List AV) (ch : List Chunk) : Prop :=
  match fstep c.tt c.wr fr ch o.op with
  | some ⟨obl, val, [], []⟩ => obl ∧ match o.dst with
    | some d => fr.getD d .u = val
    | none => True
  | _ => False
def SU (o : Oper) (fr : List AV) : Prop := match o.dst with
  | some d => fr.getD d .u = .u
  | none => True
def Fact (c : Ctx) (ops : List Oper) (o : Oper) (fr : List AV) (ch : List Chunk) : Prop :=
  match o.guard with
  | none => PF c o fr ch
  | some (j, want) => match (ops[j]?).bind (·.dst) with
    | some t => match fr.getD t .u with
      | .s (.d (.v (.bool b))) => (b = want → PF c o fr ch) ∧ (b = !want → SU o fr)
      | _ => False
    | none => False
def reAll (c : Ctx) (ops : List Oper) : List Nat → List AV → List Chunk → Prop → Prop
  | [], _, _, p => p
  | i :: is, fr, ch, p => match ops[i]? with
    | some o => Fact c ops o fr ch ∧ reAll c ops is fr ch p
    | none => False
def drawK (c : Ctx) (ops : List Oper) : List (Nat × Option (List Nat)) → List AV → List Chunk → KS → Prop
  | [], fr, ch, K => K fr ch
  | (i, none) :: σ, fr, ch, K => match ops[i]? with
    | some o => fOne c ops o fr ch fun fr ch => drawK c ops σ fr ch K
    | none => False
  | (i, some ls) :: σ, fr, ch, K => match ops[i]? with
    | some o => opG c ops o fr ch fun fr ch => reAll c ops ls fr ch (drawK c ops σ fr ch K)
    | none => False
def bnd (o : Oper) : List Nat := (o.after.toList.filter (Region.binds .any)).map (·.on)
def clo (ops : List Oper) : Nat → List Nat → List Nat → List Nat
  | 0, _, done => done
  | _ + 1, [], done => done
  | n + 1, i :: todo, done => match done.contains i with
    | true => clo ops n todo done
    | false => match ops[i]? with
      | some o => clo ops n (bnd o ++ todo) (i :: done)
      | none => clo ops n todo done
def looks (ops : List Oper) (o : Oper) : List Nat :=
  (o.op.operands.toList.filterMap fun x => match x with
    | .tmp t => some t
    | _ => none) ++ match o.guard with
    | some (g, _) => match (ops[g]?).bind (·.dst) with
      | some t => [t]
      | none => []
    | none => []
def dstIs (ops : List Oper) (i t : Nat) : Bool := match (ops[i]?).bind (·.dst) with
  | some d => Nat.beq d t
  | none => false
def chkGo (ops : List Oper) : List Nat → List Nat → List Nat → Bool → List (Nat × Option (List Nat)) → Bool
  | _, _, _, _, [] => true
  | seen, sf, seg, hc, (i, x) :: σ => match ops[i]? with
    | none => false
    | some o => !seen.contains i && (bnd o).all seen.contains && (!hc || (bnd o).any seg.contains) && match x with
      | none => chkGo ops (i :: seen) (i :: sf) (i :: seg) hc σ
      | some ls => (let cl := clo ops 4000 (bnd o) []; sf.all fun g => ls.contains g || cl.contains g) && chkGo ops (i :: seen) sf [i] true σ
def floatsOf : List (Nat × Option (List Nat)) → List Nat
  | [] => []
  | (i, none) :: σ => i :: floatsOf σ
  | (_, some _) :: σ => floatsOf σ
def chkSlots (ops : List Oper) (fl : List Nat) : Bool :=
  (List.range ops.length).all fun i => match ops[i]? with
    | some o => (looks ops o).all (fun t => fl.all fun g => !dstIs ops g t || (bnd o).contains g) && match o.dst with
      | some d => fl.all fun g => Nat.beq g i || !dstIs ops g d
      | none => true
    | none => false
def drawChk (ops : List Oper) (σ : List (Nat × Option (List Nat))) : Bool :=
  ((List.range ops.length).all fun i => (σ.map (·.1)).contains i) && chkGo ops [] [] [] false σ && chkSlots ops (floatsOf σ)
def drawsOk (n : Nat) (ord : Nat → List (Nat × Option (List Nat))) : Code → Bool
  | .region id ops draw => match draw with
    | true => drawChk ops.toList (ord id) && ops.toList.all fun o => match o.dst with
      | some d => Nat.blt d n
      | none => true
    | false => true
  | .seq a b => drawsOk n ord a && drawsOk n ord b
  | .cond _ a b => drawsOk n ord a && drawsOk n ord b
  | .block _ a => drawsOk n ord a
  | .loop a => drawsOk n ord a
  | _ => true
def refsAll : A → List Nat
  | .own c => [c]
  | .ptr c _ => [c]
  | .eptr c _ _ => [c]
  | .fn _ caps => caps
  | _ => []
def refsAV : AV → List Nat
  | .s a => refsAll a
  | .g as => as.flatMap refsAll
  | _ => []
def closeAll (ch : List Chunk) : Nat → List Nat → List Nat → List Nat
  | 0, _, done => done
  | _ + 1, [], done => done
  | n + 1, c :: todo, done => match done.contains c with
    | true => closeAll ch n todo done
    | false => match ch.getD c .dead with
      | .box cells => closeAll ch n (cells.flatMap refsAll ++ todo) (done ++ [c])
      | .dead => closeAll ch n todo done
      | _ => closeAll ch n todo (done ++ [c])
def nrmA (order : List Nat) : A → A
  | .own c => match idx order c with
    | some i => .own i
    | none => .junk
  | .ptr c off => match idx order c with
    | some i => .ptr i off
    | none => .junk
  | .eptr c j off => match idx order c with
    | some i => .eptr i j off
    | none => .junk
  | .fn f caps => match idxs order caps with
    | some is => .fn f is
    | none => .junk
  | a => a
def nrmAV (order : List Nat) : AV → AV
  | .s a => .s (nrmA order a)
  | .g as => .g (as.map (nrmA order))
  | _ => .u
def nrmCh (order : List Nat) : Chunk → Chunk
  | .box cells => .box (cells.map (nrmA order))
  | k => k
def dataA (ch : List Chunk) : A → A
  | .own c => match ch.getD c .dead with
    | .fz _ wd es => .d (.sl none wd es)
    | _ => .own c
  | .d x => .d (unflag x)
  | a => a
def dataAV (ch : List Chunk) : AV → AV
  | .s a => .s (dataA ch a)
  | .g as => .g (as.map (dataA ch))
  | x => x
def ownRefs : AV → List Nat
  | .s (.own c) => [c]
  | .g as => as.flatMap fun a => match a with
    | .own c => [c]
    | _ => []
  | _ => []
def norm (m : Nat) (L : List (Nat × Bool)) (fr : List AV) (ch : List Chunk) : List AV × List Chunk :=
  let ch1 := freezeAll ch (L.flatMap fun p => match p.2 with
    | true => ownRefs (fr.getD p.1 .u)
    | false => [])
  let vals := L.map fun p => match p.2 with
    | true => dataAV ch1 (fr.getD p.1 .u)
    | false => fr.getD p.1 .u
  let order := closeAll ch1 (4 * ch1.length + 8) (vals.flatMap refsAV) (List.range m)
  (vals.map (nrmAV order), order.map fun c => nrmCh order (ch1.getD c .dead))
def mkF (n : Nat) (L : List (Nat × Bool)) (vals : List AV) : List AV := go (List.replicate n .u) L vals
where
  go (fr : List AV) : List (Nat × Bool) → List AV → List AV
    | p :: ps, v :: vs => go (fr.set p.1 v) ps vs
    | _, _ => fr
def exec (c : Ctx) (m : Nat) : Code → List AV → List Chunk → KX → Prop
  | .skip, fr, ch, K => K .n fr ch
  | .region id ops draw, fr, ch, K => match draw with
    | false => opsK c ops.toList ops.toList fr ch (K .n)
    | true => drawK c ops.toList (c.ord id) fr ch (K .n)
  | .seq a b, fr, ch, K => exec c m a fr ch fun x fr ch => match x with
    | .n => exec c m b fr ch K
    | .e i => K (.e i) fr ch
    | .r => K .r fr ch
  | .cond t a b, fr, ch, K => match aeval fr t with
    | .s (.d (.v (.bool x))) => (x = true → exec c m a fr ch K) ∧ (x = false → exec c m b fr ch K)
    | _ => False
  | .block id a, fr, ch, K => exec c m a fr ch fun x fr ch => match x with
    | .n => K .n fr ch
    | .e i => match Nat.beq i id with
      | true => K .n fr ch
      | false => K (.e i) fr ch
    | .r => K .r fr ch
  | .loop a, fr, ch, K => ∃ (L : List (Nat × Bool)) (ι : Type) (st : ι → List AV × List Chunk) (ok : ι → Prop) (μ : ι → Nat),
      (∃ i, ok i ∧ norm m L fr ch = st i) ∧
      ∀ i, ok i → exec c m a (mkF fr.length L (st i).1) (st i).2 fun x fr' ch' => match x with
        | .n => ∃ j, ok j ∧ norm m L fr' ch' = st j ∧ μ j < μ i
        | .e i => K (.e i) fr' ch'
        | .r => K .r fr' ch'
  | .exit id, fr, ch, K => K (.e id) fr ch
  | .ret, fr, ch, K => K .r fr ch
  | _, _, _, _ => False
end Go.VC
end
section
namespace Go.VC
open Go
variable {P : Program} {G : Wd} {w0 w w' : World} {M : Nat → Prop} {ρ0 ρ ρ' : Env} {ch0 ch ch' : List Chunk} {c : Ctx} {N : Nat}
def Ok (P : Program) (G : Wd) (f : FuncId) (C : Contract) : Prop :=
  (∀ (args : Array Value) (w : World), (callFunc f args).run P w = .ok (.enter f args) w) ∧ Sound P G f C
structure CtxOk (P : Program) (G : Wd) (c : Ctx) : Prop where
  tt : TOk P c.tt
  Γ : ∀ f C, c.Γ f = some C → Ok P G f C
  fol : P.follows .mixedOrders = true
structure Inv (N : Nat) (w0 : World) (M : Nat → Prop) (ρ0 : Env) (ch0 : List Chunk) (fr : List AV) (ch : List Chunk) (ρ : Env) (a : Act) (w : World) : Prop where
  rep : Rep w0 M ρ ch w
  ext : Ext w0 ρ0 ch0 w ρ ch
  vf : VF w ρ ch fr a.tmps
  df : a.defers = []
  sz : fr.length = N
theorem VF.put {fr : List AV} {a : Act} (h : VF w ρ ch fr a.tmps) {x : AV} {v : Value} (hx : VAV w ρ ch x v) (dst : Option Tmp) : VF w ρ ch (putF fr dst x) (a.put dst v).tmps := by
  cases dst with
  | none => exact h
  | some d =>
    refine ⟨by simpa [putF, Act.put] using h.1, fun t av ht => ?_⟩
    simp only [putF] at ht
    rw [List.getElem?_set] at ht
    simp only [Act.put]
    split at ht
    · rename_i e; subst e
      split at ht
      · rename_i hl
        cases ht
        have : d < a.tmps.size := by rw [← h.1]; exact hl
        rw [Array.getD_eq_getD_getElem?, Array.getElem?_setIfInBounds, if_pos rfl, if_pos this]; exact hx
      · cases ht
    · rename_i e
      have := h.2 t av ht
      rw [Array.getD_eq_getD_getElem?] at this ⊢
      rw [Array.getElem?_setIfInBounds, if_neg e]; exact this
theorem VF.slot {fr : List AV} {tmps : Array Value} (h : VF w ρ ch fr tmps) {t : Nat} {x : AV} (hx : VAV w ρ ch x (tmps.getD t undef)) : VF w ρ ch (fr.set t x) tmps := by
  refine ⟨by simpa using h.1, fun t' av ht => ?_⟩
  rw [List.getElem?_set] at ht
  split at ht
  · rename_i e; subst e
    split at ht
    · cases ht; exact hx
    · cases ht
  · exact h.2 t' av ht
theorem putF_length {fr : List AV} {dst : Option Tmp} {x : AV} : (putF fr dst x).length = fr.length := by cases dst <;> simp [putF]
def After (N : Nat) (w0 : World) (M : Nat → Prop) (ρ0 : Env) (ch0 : List Chunk) (K : KS) (a : Act) (w : World) : Prop :=
  ∃ fr ch ρ, K fr ch ∧ Inv N w0 M ρ0 ch0 fr ch ρ a w
theorem float_ok (hC : CtxOk P G c) {fr : List AV} {a : Act} (hI : Inv N w0 M ρ0 ch0 fr ch ρ a w) {o : Oper} {K : KS} (h : floatK c o fr ch K) {Q : Exit → Act → World → Prop} {Kc : Act → World → Prop}
    (hK : ∀ a w, After N w0 M ρ0 ch0 K a w → Kc a w) : o.wp P a w Kc Q := by
  unfold floatK at h
  split at h
  · rename_i r hr
    obtain ⟨ho, hk⟩ := h
    obtain ⟨s, hs, v, w', ρ', hrun, hR', hv, hE⟩ := fstep_ok hC.tt hI.rep hI.vf hr ho
    have : (execOp a.eval o).run P w = .ok (.value v) w' := by rw [hs w]; simp [hrun]
    simp only [Oper.wp, this, Oper.upon]
    refine hK _ _ ⟨_, _, ρ', hk ho, hR', hI.ext.trans hE hI.rep.wok.size, (VF.ext hE hI.vf).put hv o.dst, ?_, putF_length.trans hI.sz⟩
    cases o.dst <;> exact hI.df
  · exact h.elim
theorem call_run {a : Act} {f : Operand} {args : Array Operand} {argTypes : Array TypeId} {dst : Option Tmp} {ty : TypeId} {pos : String} {after : Array Edge} {guard : Option (Nat × Bool)} {id : FuncId} {caps : Array Value}
    (hf : a.eval f = .func (.func id) #[] caps) (he : ∀ (args : Array Value) (w : World), (callFunc id args).run P w = .ok (.enter id args) w) :
    (execOp a.eval ⟨dst, .call ⟨.value f, args, argTypes⟩, ty, pos, after, guard⟩).run P w = .ok (.enter id (args.map a.eval ++ caps)) w := by
  simp [execOp, resolve, hf, Deferred.ofValue, invoke, he]
theorem callK_ok (hC : CtxOk P G c) (hG : G.p w0 (Own ρ0 ch0)) {fr : List AV} {a : Act} (hI : Inv N w0 M ρ0 ch0 fr ch ρ a w) {f : Operand} {args : Array Operand} {argTypes : Array TypeId} {dst : Option Tmp} {ty : TypeId} {pos : String} {after : Array Edge} {guard : Option (Nat × Bool)}
    {K : KS} (h : callK c (aeval fr f) (args.toList.map (aeval fr)) dst fr ch K) {Q : Exit → Act → World → Prop} {Kc : Act → World → Prop} (hK : ∀ a w, After N w0 M ρ0 ch0 K a w → Kc a w) :
    Oper.wp P ⟨dst, .call ⟨.value f, args, argTypes⟩, ty, pos, after, guard⟩ a w Kc Q := by
  unfold callK at h
  split at h
  · rename_i id caps hfe
    split at h
    · rename_i C hC'
      obtain ⟨hen, hS⟩ := hC.Γ id C hC'
      have hvf := aeval_ok hI.vf f
      rw [hfe] at hvf
      obtain ⟨hcl, bs, hbl, hbs, hfv⟩ := hvf
      have hrun := call_run (P := P) (w := w) (args := args) (argTypes := argTypes) (dst := dst) (ty := ty) (pos := pos) (after := after) (guard := guard) hfv hen
      have hargs : VArgs w ρ ch (args.toList.map (aeval fr) ++ caps.map fun x => .s (.ptr x 0)) (args.map a.eval ++ (bs.map fun b => Value.pointer (some ⟨b, 0, none⟩)).toArray) := by
        refine ⟨by simp [hbl], fun j x hx => ?_⟩
        rcases Nat.lt_or_ge j args.size with hj | hj
        · rw [List.getElem?_append_left (by simpa using hj), List.getElem?_map] at hx
          have hq : args.toList[j]? = some args[j] := by simp [hj]
          rw [hq] at hx
          simp at hx; subst hx
          exact ⟨a.eval args[j], by rw [Array.getElem?_append_left (by simpa using hj)]; simp [hj], aeval_ok hI.vf _⟩
        · rw [List.getElem?_append_right (by simpa using hj), List.getElem?_map] at hx
          simp only [List.length_map, Array.length_toList] at hx
          cases hq : caps[j - args.size]? with
          | none => simp [hq] at hx
          | some cc =>
            simp [hq] at hx; subst hx
            have hb := hbs _ _ hq
            have hlt : j - args.size < bs.length := by rw [hbl]; exact (List.getElem?_eq_some_iff.1 hq).1
            refine ⟨Value.pointer (some ⟨bs[j - args.size], 0, none⟩), ?_, hcl cc (List.mem_of_getElem? hq), bs[j - args.size], by rw [hb]; simp [hlt], rfl⟩
            rw [Array.getElem?_append_right (by simpa using hj)]
            simp [hlt]
      simp only [Oper.wp, hrun, Oper.upon]
      refine (acall_ok hI.rep (G.keep _ _ _ _ hG hI.ext.keeps) hargs hS h).mono ?_
      rintro e w' ⟨v, av, ρ', ch', rfl, hk, hR', hv, hE⟩
      refine hK _ _ ⟨_, _, ρ', hk, hR', hI.ext.trans hE hI.rep.wok.size, (VF.ext hE hI.vf).put hv dst, ?_, putF_length.trans hI.sz⟩
      cases dst <;> exact hI.df
    · exact h.elim
  · exact h.elim
theorem isSrcT_ok (hT : TOk P c.tt) {t : TypeId} (h : isSrcT (c.tt t) = true) : ∃ d, P.underlying t = some d ∧ notInt d := by
  unfold isSrcT at h
  split at h
  · rename_i wd by_ ag zs ht
    obtain ⟨i, e, ie, z, d, h1, h2, h3, h4, _⟩ := hT _ _ ht
    exact ⟨_, h4, .inr ⟨e, rfl⟩⟩
  · rename_i b ht
    obtain ⟨i, x, d, h1, h2, h3, h4, h5, h6, h7, h8⟩ := hT _ _ ht
    cases h4; simp only [descOf] at h8; exact ⟨d, h6, .inl h8⟩
  · cases h
theorem opX_ok (hC : CtxOk P G c) (hG : G.p w0 (Own ρ0 ch0)) {fr : List AV} {a : Act} (hI : Inv N w0 M ρ0 ch0 fr ch ρ a w) {o : Oper} {K : KS} (h : opX c o fr ch K) {Q : Exit → Act → World → Prop} {Kc : Act → World → Prop}
    (hK : ∀ a w, After N w0 M ρ0 ch0 K a w → Kc a w) : o.wp P a w Kc Q := by
  have hfl := fun h => float_ok hC hI (o := o) (K := K) (Q := Q) (Kc := Kc) h hK
  obtain ⟨dst, op, ty, pos, after, guard⟩ := o
  cases op <;> simp only [opX] at h <;> try exact hfl h
  case store t x v =>
    split at h
    · rename_i ti ht
      split at h
      · rename_i ch' hs
        obtain ⟨i, z, h1, h2, _⟩ := (hC.tt _ _ ht).info
        obtain ⟨w', hrun, hR', hE⟩ := store_ok (P := P) hI.rep h1 h2 hs (aeval_ok hI.vf x) (aeval_ok hI.vf v)
        have : (execOp a.eval ⟨dst, .store t x v, ty, pos, after, guard⟩).run P w = .ok .skip w' := by simp [execOp, hrun]
        simp only [Oper.wp, this, Oper.upon]
        refine hK _ _ ⟨_, _, ρ, h, hR', hI.ext.trans hE hI.rep.wok.size, (VF.ext hE hI.vf).put (x := .u) trivial dst, ?_, putF_length.trans hI.sz⟩
        cases dst <;> exact hI.df
      · exact h.elim
    · exact h.elim
  case call cl =>
    obtain ⟨callee, args, argTypes⟩ := cl
    cases callee <;> simp only at h <;> try exact hfl h
    case value f => exact callK_ok hC hG hI h hK
    case builtin b =>
      cases b <;> simp only at h <;> try exact hfl h
      case append =>
        split at h
        · rename_i x y t0 t1 hx ht
          have hx' : args = #[x, y] := by apply Array.ext'; simpa using hx
          have ht' : argTypes = #[t0, t1] := by apply Array.ext'; simpa using ht
          subst hx' ht'
          split at h
          · rename_i wd by_ ag zs htt
            split at h
            · rename_i hs
              split at h
              · rename_i r hr
                obtain ⟨d1, hd1, hn⟩ := isSrcT_ok hC.tt hs
                obtain ⟨v, w', ρ', hrun, hR', hv, hE⟩ := aappend_ok (P := P) (ty := ty) hI.rep (hC.tt _ _ htt) hd1 hn hr h.1 (aeval_ok hI.vf x) (aeval_ok hI.vf y)
                have : (execOp a.eval ⟨dst, .call ⟨.builtin .append, #[x, y], #[t0, t1]⟩, ty, pos, after, guard⟩).run P w = .ok (.value v) w' := by simp [execOp, resolve, invoke, builtin, hrun]
                simp only [Oper.wp, this, Oper.upon]
                refine hK _ _ ⟨_, _, ρ', h.2 h.1, hR', hI.ext.trans hE hI.rep.wok.size, (VF.ext hE hI.vf).put hv dst, ?_, putF_length.trans hI.sz⟩
                cases dst <;> exact hI.df
              · exact h.elim
            · exact h.elim
          · exact h.elim
        · exact h.elim
end Go.VC
end
section
namespace Go.VC
open Go
variable {P : Program} {w0 w w' : World} {M : Nat → Prop} {ρ0 ρ ρ' : Env} {ch0 ch ch' : List Chunk} {c : Ctx} {N : Nat}
theorem closeAll_ext (ch : List Chunk) : ∀ (n : Nat) (todo done : List Nat), done.Nodup → (closeAll ch n todo done).Nodup ∧ ∃ ex, closeAll ch n todo done = done ++ ex := by
  intro n
  induction n with
  | zero => intro todo done h; exact ⟨h, [], by simp [closeAll]⟩
  | succ n ih =>
    intro todo done h
    cases todo with
    | nil => exact ⟨h, [], by simp [closeAll]⟩
    | cons x todo =>
      simp only [closeAll]
      split
      · exact ih _ _ h
      · rename_i hc
        have hnd : (done ++ [x]).Nodup := by
          rw [List.nodup_append]
          refine ⟨h, by simp, fun a ha b hb => ?_⟩
          simp at hb; subst hb
          rintro rfl
          simp at hc; exact hc ha
        split
        · obtain ⟨h1, ex, h2⟩ := ih _ _ hnd
          exact ⟨h1, x :: ex, by rw [h2]; simp⟩
        · exact ih _ _ h
        · obtain ⟨h1, ex, h2⟩ := ih _ _ hnd
          exact ⟨h1, x :: ex, by rw [h2]; simp⟩
def nrmE (ρ : Env) (order : List Nat) : Env := ⟨fun i => (order[i]?).bind fun c => ρ c, ρ.X⟩
def nrmChs (ch : List Chunk) (order : List Nat) : List Chunk := order.map fun c => nrmCh order (ch.getD c .dead)
theorem nrmE_get {order : List Nat} {i c : Nat} (h : order[i]? = some c) : nrmE ρ order i = ρ c := by
  show (order[i]?).bind (fun c => ρ c) = ρ c
  rw [h]; rfl
theorem nrmChs_get {order : List Nat} {i c : Nat} {k : Chunk} (h : order[i]? = some c) (hk : ch[c]? = some k) : (nrmChs ch order)[i]? = some (nrmCh order k) := by
  simp [nrmChs, h, List.getD_eq_getElem?_getD, hk]
theorem nrmChs_inv {order : List Nat} {i : Nat} {k : Chunk} (h : (nrmChs ch order)[i]? = some k) : ∃ c, order[i]? = some c ∧ k = nrmCh order (ch.getD c .dead) := by
  simp only [nrmChs, List.getElem?_map] at h
  cases hc : order[i]? with
  | none => simp [hc] at h
  | some c => simp [hc] at h; exact ⟨c, rfl, by rw [← h, List.getD_eq_getElem?_getD]⟩
theorem nrmCh_own {order : List Nat} {k : Chunk} : (nrmCh order k).isOwn = k.isOwn := by cases k <;> rfl
theorem nrm_inv' {order : List Nat} {i : Nat} {k : Chunk} (h : (nrmChs ch order)[i]? = some k) (ho : k.isOwn = true) : ∃ c k0, order[i]? = some c ∧ ch[c]? = some k0 ∧ k0.isOwn = true ∧ k = nrmCh order k0 := by
  obtain ⟨c, hc, rfl⟩ := nrmChs_inv h
  rw [nrmCh_own] at ho
  rw [List.getD_eq_getElem?_getD] at ho ⊢
  cases hk : ch[c]? with
  | none => rw [hk] at ho; simp [Chunk.isOwn] at ho
  | some k0 => rw [hk] at ho; exact ⟨c, k0, hc, hk, ho, rfl⟩
theorem nrm_own {order : List Nat} {b : Nat} (h : Own (nrmE ρ order) (nrmChs ch order) b) : Own ρ ch b := by
  rcases h with h | ⟨i, k, hk, ho, hr⟩
  · exact .inl h
  · obtain ⟨c, k0, h1, h2, h3, rfl⟩ := nrm_inv' hk ho
    rw [nrmE_get h1] at hr
    exact .inr ⟨c, k0, h2, h3, hr⟩
theorem nrm_keeps {order : List Nat} : Keeps w (Own ρ ch) w (Own (nrmE ρ order) (nrmChs ch order)) := fun _ _ h => ⟨rfl, fun h' => h (nrm_own h')⟩
theorem nrmA_ok {order : List Nat} {a : A} {v : Value} (hv : VA w ρ ch a v) : VA w (nrmE ρ order) (nrmChs ch order) (nrmA order a) v := by
  have hone := VA.oneCell hv
  have hlen : ∀ {i c : Nat}, order[i]? = some c → i < (nrmChs ch order).length := by
    intro i c h; simp only [nrmChs, List.length_map]; exact (List.getElem?_eq_some_iff.1 h).1
  cases a with
  | d x => exact Rd.keep nrm_keeps hv
  | own c =>
    simp only [nrmA]
    cases hi : idx order c with
    | none => exact hone
    | some i =>
      have ho := idx_some hi
      cases hk : ch[c]? with
      | none => simp [VA, hk] at hv
      | some k =>
        simp only [VA, nrmChs_get ho hk]
        simp only [VA, hk] at hv
        cases k with
        | box cells => exact hone
        | dead => exact hone
        | sl nf wd es => simp only [nrmCh]; rw [nrmE_get ho]; exact hv
        | fz nf wd es => exact Rd.keep nrm_keeps hv
  | ptr c off =>
    simp only [nrmA]
    cases hi : idx order c with
    | none => exact hone
    | some i =>
      have ho := idx_some hi
      obtain ⟨_, b, hb, rfl⟩ := hv
      exact ⟨hlen ho, b, by rw [nrmE_get ho]; exact hb, rfl⟩
  | eptr c j off =>
    simp only [nrmA]
    cases hi : idx order c with
    | none => exact hone
    | some i =>
      have ho := idx_some hi
      cases hk : ch[c]? with
      | none => simp [VA, hk] at hv
      | some k =>
        simp only [VA, nrmChs_get ho hk]
        simp only [VA, hk] at hv
        cases k with
        | box cells => exact hone
        | dead => exact hone
        | sl nf wd es => simp only [nrmCh]; rw [nrmE_get ho]; exact hv
        | fz nf wd es => exact hone
  | dptr cells =>
    obtain ⟨b, off, rfl, hc⟩ := hv
    refine ⟨b, off, rfl, fun j d hj => ?_⟩
    obtain ⟨hO, x, hx, hr⟩ := hc j d hj
    exact ⟨fun h => hO (nrm_own h), x, hx, Rd.keep nrm_keeps hr⟩
  | fn f caps =>
    simp only [nrmA]
    cases hi : idxs order caps with
    | none => exact hone
    | some is =>
      obtain ⟨hl, hj⟩ := idxs_some hi
      obtain ⟨_, bs, h1, h2, rfl⟩ := hv
      refine ⟨fun i him => ?_, bs, h1.trans hl.symm, fun j i hji => ?_, rfl⟩
      · obtain ⟨j, hji⟩ := List.getElem?_of_mem him
        obtain ⟨c, _, h4⟩ := hj j i hji
        exact hlen h4
      · obtain ⟨c, h3, h4⟩ := hj j i hji
        rw [nrmE_get h4]; exact h2 j c h3
  | junk => exact hone
theorem nrmAV_ok {order : List Nat} {x : AV} {v : Value} (hv : VAV w ρ ch x v) : VAV w (nrmE ρ order) (nrmChs ch order) (nrmAV order x) v := by
  cases x with
  | s a => exact nrmA_ok hv
  | g as =>
    obtain ⟨vs, rfl, hs, hj⟩ := hv
    refine ⟨vs, rfl, by simpa using hs, fun j a ha => ?_⟩
    rw [List.getElem?_map] at ha
    cases hq : as[j]? with
    | none => simp [hq] at ha
    | some a0 =>
      simp [hq] at ha; subst ha
      obtain ⟨y, hy, hva⟩ := hj j a0 hq
      exact ⟨y, hy, nrmA_ok hva⟩
  | t xs => trivial
  | u => trivial
theorem nrm_chunk {order : List Nat} {r : Option Nat} {k : Chunk} (h : ChunkRep w ρ ch r k) : ChunkRep w (nrmE ρ order) (nrmChs ch order) r (nrmCh order k) := by
  cases k with
  | box cells =>
    obtain ⟨b, cur, t, fr, hb, hh, hu, hs, hc⟩ := h
    refine ⟨b, cur, t, fr, hb, hh, hu, by simpa using hs, fun j a ha => ?_⟩
    rw [List.getElem?_map] at ha
    cases hq : cells[j]? with
    | none => simp [hq] at ha
    | some a0 =>
      simp [hq] at ha; subst ha
      obtain ⟨y, hy, hva⟩ := hc j a0 hq
      exact ⟨y, hy, nrmA_ok hva⟩
  | sl nf wd es =>
    obtain ⟨hw, h4⟩ := h
    refine ⟨hw, ?_⟩
    rcases h4 with h4 | ⟨b, cur, t, fr, cap, hb, hn, hh, hu, hs, hl, hc⟩
    · exact .inl h4
    · exact .inr ⟨b, cur, t, fr, cap, hb, hn, hh, hu, hs, hl, fun i j d hd => let ⟨x, hx, hr⟩ := hc i j d hd; ⟨x, hx, Rd.keep nrm_keeps hr⟩⟩
  | fz => trivial
  | dead => trivial
theorem nrm_rep {order : List Nat} (hn : order.Nodup) (hR : Rep w0 M ρ ch w) : Rep w0 M (nrmE ρ order) (nrmChs ch order) w := by
  refine ⟨hR.wok, fun i k hk => ?_, fun i j k k' b hk hk' ho ho' hb hb' => ?_, fun i k b hk ho hb => ?_, hR.far⟩
  · obtain ⟨c, hc, rfl⟩ := nrmChs_inv hk
    rw [nrmE_get hc, List.getD_eq_getElem?_getD]
    cases hq : ch[c]? with
    | none => trivial
    | some k0 => exact nrm_chunk (hR.chunk c k0 hq)
  · obtain ⟨c, k0, h1, h2, h3, rfl⟩ := nrm_inv' hk ho
    obtain ⟨c', k0', h1', h2', h3', rfl⟩ := nrm_inv' hk' ho'
    rw [nrmE_get h1] at hb
    rw [nrmE_get h1'] at hb'
    have := hR.inj c c' k0 k0' b h2 h2' h3 h3' hb hb'
    subst this
    exact (List.getElem?_inj (List.getElem?_eq_some_iff.1 h1).1 hn).1 (h1.trans h1'.symm)
  · obtain ⟨c, k0, h1, h2, h3, rfl⟩ := nrm_inv' hk ho
    rw [nrmE_get h1] at hb
    exact hR.new c k0 b h2 h3 hb
theorem nrm_ext {order : List Nat} (hE : Ext w0 ρ0 ch0 w ρ ch) (hp : ∀ i, i < ch0.length → order[i]? = some i) : Ext w0 ρ0 ch0 w (nrmE ρ order) (nrmChs ch order) := by
  refine ⟨fun b hb hO => ?_, fun i hi => by rw [nrmE_get (hp i hi)]; exact hE.rho i hi, hE.far, fun i k hk => ?_⟩
  · obtain ⟨h1, h2⟩ := hE.keeps b hb hO
    exact ⟨h1, fun h => h2 (nrm_own h)⟩
  · have hi := (List.getElem?_eq_some_iff.1 hk).1
    obtain ⟨k', hk', ht⟩ := hE.turns i k hk
    refine ⟨_, nrmChs_get (hp i hi) hk', ?_⟩
    cases k' with
    | dead => simp [nrmCh, Turns]
    | box cells => cases k <;> simp [nrmCh, Turns] at ht ⊢
    | sl nf wd es => cases k <;> first | exact ht | exact ht.elim
    | fz nf wd es =>
      cases k with
      | box => exact ht.elim
      | dead => exact ht.elim
      | fz nf' wd' es' => exact ht
      | sl nf' wd' es' => exact fun v hv => Rd.keep nrm_keeps (ht v hv)
theorem dataA_ok {a : A} {v : Value} (hv : VA w ρ ch a v) : VA w ρ ch (dataA ch a) v := by
  cases a with
  | d x => exact rd_unflag hv
  | own c =>
    simp only [dataA]
    split
    · rename_i nf wd es hg
      have hc := getD_some hg (by simp)
      simp only [VA, hc] at hv
      exact Rd.flag hv
    · exact hv
  | _ => exact hv
theorem dataAV_ok {x : AV} {v : Value} (hv : VAV w ρ ch x v) : VAV w ρ ch (dataAV ch x) v := by
  cases x with
  | s a => exact dataA_ok hv
  | g as =>
    obtain ⟨vs, rfl, hs, hj⟩ := hv
    refine ⟨vs, rfl, by simpa using hs, fun j a ha => ?_⟩
    rw [List.getElem?_map] at ha
    cases hq : as[j]? with
    | none => simp [hq] at ha
    | some a0 =>
      simp [hq] at ha; subst ha
      obtain ⟨y, hy, hva⟩ := hj j a0 hq
      exact ⟨y, hy, dataA_ok hva⟩
  | t xs => exact hv
  | u => exact hv
theorem mkF_ok {tmps : Array Value} : ∀ (L : List (Nat × Bool)) (vals : List AV) (fr : List AV), VF w ρ ch fr tmps → (∀ (j : Nat) (p : Nat × Bool) (x : AV), L[j]? = some p → vals[j]? = some x → VAV w ρ ch x (tmps.getD p.1 undef)) →
    VF w ρ ch (mkF.go fr L vals) tmps := by
  intro L
  induction L with
  | nil => intro vals fr h _; cases vals <;> exact h
  | cons p L ih =>
    intro vals fr h hj
    cases vals with
    | nil => exact h
    | cons x vals =>
      simp only [mkF.go]
      exact ih vals _ (h.slot (hj 0 p x rfl rfl)) (fun j q y h1 h2 => hj (j + 1) q y (by simpa using h1) (by simpa using h2))
theorem mkF_len : ∀ (L : List (Nat × Bool)) (vals : List AV) (fr : List AV), (mkF.go fr L vals).length = fr.length := by
  intro L
  induction L with
  | nil => intro vals fr; cases vals <;> rfl
  | cons p L ih =>
    intro vals fr
    cases vals with
    | nil => rfl
    | cons x vals => simp only [mkF.go]; rw [ih]; simp
theorem getD_ok {fr : List AV} {tmps : Array Value} (h : VF w ρ ch fr tmps) (t : Nat) : VAV w ρ ch (fr.getD t .u) (tmps.getD t undef) := by
  rw [List.getD_eq_getElem?_getD]
  cases ht : fr[t]? with
  | none => trivial
  | some av => exact h.2 t av ht
theorem norm_ok {fr : List AV} {a : Act} (hI : Inv N w0 M ρ0 ch0 fr ch ρ a w) (L : List (Nat × Bool)) {vals : List AV} {chs : List Chunk} (h : norm ch0.length L fr ch = (vals, chs)) :
    ∃ ρ', Inv N w0 M ρ0 ch0 (mkF fr.length L vals) chs ρ' a w := by
  simp only [norm, Prod.mk.injEq] at h
  generalize hfz : (L.flatMap fun p => match p.2 with | true => ownRefs (fr.getD p.1 .u) | false => []) = fz at h
  obtain ⟨hR1, hE1⟩ := freezeAll_rep fz hI.rep
  generalize hch : freezeAll ch fz = ch1 at h hR1 hE1
  have hF1 := VF.ext hE1 hI.vf
  generalize hv : (L.map fun p => match p.2 with | true => dataAV ch1 (fr.getD p.1 .u) | false => fr.getD p.1 .u) = vs at h
  generalize ho : closeAll ch1 (4 * ch1.length + 8) (vs.flatMap refsAV) (List.range ch0.length) = order at h
  obtain ⟨h1, h2⟩ := h
  subst h1 h2
  obtain ⟨hnd, ex, hex⟩ := closeAll_ext ch1 (4 * ch1.length + 8) (vs.flatMap refsAV) (List.range ch0.length) List.nodup_range
  rw [ho] at hnd hex
  have hp : ∀ i, i < ch0.length → order[i]? = some i := by
    intro i hi
    rw [hex, List.getElem?_append_left (by simpa using hi)]; simp [hi]
  have hE01 : Ext w0 ρ0 ch0 w ρ ch1 := hI.ext.trans hE1 hI.rep.wok.size
  refine ⟨nrmE ρ order, nrm_rep hnd hR1, nrm_ext hE01 hp, ?_, hI.df, by rw [mkF, mkF_len]; simpa using hI.sz⟩
  refine mkF_ok L _ _ ⟨by simpa using hI.vf.1, fun t av ht => ?_⟩ (fun j p x hj hx => ?_)
  · have : av = .u := by
      rw [List.getElem?_replicate] at ht
      split at ht <;> simp_all
    subst this; trivial
  · subst hv
    rw [List.getElem?_map, List.getElem?_map, hj] at hx
    simp at hx; subst hx
    apply nrmAV_ok
    split
    · exact dataAV_ok (getD_ok hF1 _)
    · exact getD_ok hF1 _
end Go.VC
end
section
namespace Go.VC
open Go
variable {tt : TypeId → Option TI} {wr : Bool} {fr fr' : List AV} {ch : List Chunk} {c : Ctx}
theorem fillA_cg (fs : List (Nat × Nat × Bool)) : ∀ (parts : List (Nat × Operand)) (cells : List A), (∀ p ∈ parts, aeval fr p.2 = aeval fr' p.2) → fillA fs cells fr parts = fillA fs cells fr' parts := by
  intro parts
  induction parts with
  | nil => intro cells _; rfl
  | cons p parts ih =>
    intro cells h
    obtain ⟨i, x⟩ := p
    have hx := h (i, x) (by simp)
    simp only at hx
    have ih' := fun cells => ih cells (fun p hp => h p (by simp [hp]))
    simp only [fillA, hx, ih']
theorem fillD_cg (ch : List Chunk) (wd : Nat) : ∀ (parts : List (Nat × Operand)) (es : List (List D)) (fz : List Nat), (∀ p ∈ parts, aeval fr p.2 = aeval fr' p.2) → fillD ch wd es fz fr parts = fillD ch wd es fz fr' parts := by
  intro parts
  induction parts with
  | nil => intro es fz _; rfl
  | cons p parts ih =>
    intro es fz h
    obtain ⟨i, x⟩ := p
    have hx := h (i, x) (by simp)
    simp only at hx
    have ih' := fun es fz => ih es fz (fun p hp => h p (by simp [hp]))
    simp only [fillD, hx, ih']
theorem capsOf_cg : ∀ (l : List Operand), (∀ x ∈ l, aeval fr x = aeval fr' x) → capsOf fr l = capsOf fr' l := by
  intro l
  induction l with
  | nil => intro _; rfl
  | cons x l ih =>
    intro h
    simp only [capsOf, h x (by simp), ih (fun y hy => h y (by simp [hy]))]
theorem map_cg {l : List Operand} (h : ∀ x ∈ l, aeval fr x = aeval fr' x) : l.map (aeval fr) = l.map (aeval fr') := List.map_congr_left h
theorem optInt_cg {d : Int} {x : Option Operand} (h : ∀ y, x = some y → aeval fr y = aeval fr' y) : optInt fr d x = optInt fr' d x := by
  cases x with
  | none => rfl
  | some y => simp only [optInt, h y rfl]
theorem aslice_cg {w : Nat} {x : AV} {lo hi : Option Operand} (h1 : ∀ y, lo = some y → aeval fr y = aeval fr' y) (h2 : ∀ y, hi = some y → aeval fr y = aeval fr' y) : aslice ch fr w x lo hi = aslice ch fr' w x lo hi := by
  unfold aslice
  simp only [optInt_cg h1, fun d => optInt_cg (d := d) h2]
theorem fstep_cg {o : Op} (h : ∀ x ∈ o.operands.toList, aeval fr x = aeval fr' x) : fstep tt wr fr ch o = fstep tt wr fr' ch o := by
  cases o
  case build t parts =>
    have := fun fs cells => fillA_cg (fr := fr) (fr' := fr') fs parts.toList cells (fun p hp => h p.2 (by simp [Op.operands]; exact ⟨p.1, by simpa using hp⟩))
    simp only [fstep, this]
  case buildSlice t n parts =>
    have := fun ch wd es fz => fillD_cg (fr := fr) (fr' := fr') ch wd parts.toList es fz (fun p hp => h p.2 (by simp [Op.operands]; exact ⟨p.1, by simpa using hp⟩))
    simp only [fstep, this]
  case makeFunc f first caps =>
    have hc := capsOf_cg (fr := fr) (fr' := fr') caps.toList (fun x hx => h x (by simp [Op.operands]; right; simpa using hx))
    cases f <;> simp only [fstep, hc]
  case slice t x lo hi m =>
    have hx := h x (by simp [Op.operands])
    have hl : ∀ y, lo = some y → aeval fr y = aeval fr' y := fun y hy => h y (by subst hy; simp [Op.operands])
    have hh : ∀ y, hi = some y → aeval fr y = aeval fr' y := fun y hy => h y (by subst hy; simp [Op.operands])
    cases m with
    | none => simp only [fstep, hx, fun w x => aslice_cg (ch := ch) (w := w) (x := x) hl hh]
    | some m => rfl
  case call cl =>
    obtain ⟨callee, args, tys⟩ := cl
    cases callee with
    | value f => rfl
    | invoke r m => rfl
    | builtin b =>
      have ha : ∀ x ∈ args.toList, aeval fr x = aeval fr' x := fun x hx => h x (by simp [Op.operands, Call.operands]; simpa using hx)
      cases b <;> simp only [fstep, map_cg ha]
      case len =>
        split
        · rename_i x t hx ht
          rw [ha x (by rw [hx]; simp)]
        · rfl
  all_goals first
    | rfl
    | (have h1 := fun x hx => h x hx
       simp [Op.operands] at h1
       simp only [fstep, h1])
end Go.VC
end
section
namespace Go.VC
open Go
variable {P : Program} {G : Wd} {w0 w w' : World} {M : Nat → Prop} {ρ0 ρ ρ' : Env} {ch0 ch ch' : List Chunk} {c : Ctx} {N : Nat}
def QK (N : Nat) (w0 : World) (M : Nat → Prop) (ρ0 : Env) (ch0 : List Chunk) (K : KX) : Exit → Act → World → Prop
  | .normal, a, w => After N w0 M ρ0 ch0 (K .n) a w
  | .exit id, a, w => After N w0 M ρ0 ch0 (K (.e id)) a w
  | .ret, a, w => After N w0 M ρ0 ch0 (K .r) a w
  | _, _, _ => False
theorem yielded_of {ops : Array Oper} {fr : List AV} {a : Act} (hF : VF w ρ ch fr a.tmps) {j : Nat} {t : Tmp} {b : Bool} (ht : (ops.toList[j]?).bind (·.dst) = some t) (hb : fr.getD t .u = .s (.d (.v (.bool b)))) :
    yielded ops a.tmps j = some b := by
  have hv := getD_ok hF t
  rw [hb] at hv
  have h1 := rdB hv
  have ht' : (ops[j]?).bind (·.dst) = some t := by simpa using ht
  have h2 : a.tmps[t]? = some (.bool b) := by
    rw [Array.getD_eq_getD_getElem?] at h1
    cases hx : a.tmps[t]? with
    | none => rw [hx] at h1; simp [undef] at h1
    | some x => rw [hx] at h1; simp at h1; rw [h1]
  simp only [yielded, ht', Option.bind_some, h2]
theorem set_bool {fr : List AV} {a : Act} (hI : Inv N w0 M ρ0 ch0 fr ch ρ a w) {t : Nat} {b : Bool} (hb : fr.getD t .u = .s (.d (.v (.bool b)))) : Inv N w0 M ρ0 ch0 (fr.set t (vB b)) ch ρ a w :=
  ⟨hI.rep, hI.ext, hI.vf.slot (by have := getD_ok hI.vf t; rw [hb] at this; exact this), hI.df, by simpa using hI.sz⟩
theorem opG_ok (hC : CtxOk P G c) (hG : G.p w0 (Own ρ0 ch0)) {ops : Array Oper} {fr : List AV} {a : Act} (hI : Inv N w0 M ρ0 ch0 fr ch ρ a w) {o : Oper} {K : KS} (h : opG c ops.toList o fr ch K) {Q : Exit → Act → World → Prop} {Kc : Act → World → Prop}
    (hK : ∀ a w, After N w0 M ρ0 ch0 K a w → Kc a w) : if Region.wanted o (yielded ops a.tmps) then o.wp P a w Kc Q else Kc (a.put o.dst undef) w := by
  unfold opG at h
  split at h
  · rename_i hg
    rw [if_pos (by simp [Region.wanted, hg])]
    exact opX_ok hC hG hI h hK
  · rename_i j want hg
    split at h
    · rename_i t ht
      split at h
      · rename_i b hb
        have hy := yielded_of hI.vf ht hb
        by_cases hbw : b = want
        · subst hbw
          rw [if_pos (by simp [Region.wanted, hg, hy])]
          exact opX_ok hC hG (set_bool hI hb) (h.1 rfl) hK
        · have hbn : b = !want := by cases b <;> cases want <;> simp_all
          rw [if_neg (by simp [Region.wanted, hg, hy, hbw])]
          have hI' := set_bool hI hb
          rw [hbn] at hI'
          refine hK _ _ ⟨_, _, ρ, h.2 hbn, hI'.rep, hI'.ext, hI'.vf.put (x := .u) trivial o.dst, ?_, putF_length.trans hI'.sz⟩
          cases o.dst <;> exact hI'.df
      · exact h.elim
    · exact h.elim
end Go.VC
end
section
namespace Go.VC
open Go
variable {P : Program} {w0 w w' : World} {M : Nat → Prop} {ρ0 ρ ρ' : Env} {ch0 ch ch' : List Chunk} {c : Ctx} {N : Nat} {fr fr' : List AV} {ops : List Oper}
abbrev Ordr := List (Nat × Option (List Nat))
theorem chkGo_seg : ∀ (fl : Ordr) {seen sf seg : List Nat} {i : Nat} {x : Option (List Nat)} {post : Ordr}, (∀ y ∈ fl, y.2 = none) → chkGo ops seen sf seg true (fl ++ (i, x) :: post) = true →
    ∃ o, ops[i]? = some o ∧ ∃ j ∈ bnd o, j ∈ seg ∨ j ∈ fl.map (·.1) := by
  intro fl
  induction fl with
  | nil =>
    intro seen sf seg i x post _ h
    simp only [List.nil_append, chkGo] at h
    split at h
    · cases h
    · rename_i o ho
      simp only [Bool.and_eq_true, Bool.not_true, Bool.false_or, List.any_eq_true] at h
      obtain ⟨j, hj, hs⟩ := h.1.2
      exact ⟨o, ho, j, hj, .inl (by simpa using hs)⟩
  | cons y fl ih =>
    intro seen sf seg i x post hn h
    obtain ⟨y1, y2⟩ := y
    have hy : y2 = none := hn (y1, y2) (by simp)
    subst hy
    simp only [List.cons_append, chkGo] at h
    split at h
    · cases h
    · simp only [Bool.and_eq_true] at h
      obtain ⟨o, ho, j, hj, hs⟩ := ih (fun z hz => hn z (by simp [hz])) h.2
      refine ⟨o, ho, j, hj, ?_⟩
      rcases hs with hs | hs
      · rcases List.mem_cons.1 hs with rfl | hs
        · exact .inr (by simp)
        · exact .inl hs
      · exact .inr (by simp only [List.map_cons, List.mem_cons]; exact .inr hs)
theorem chkGo_spec : ∀ (pre : Ordr) {seen sf seg : List Nat} {hc : Bool} {i : Nat} {x : Option (List Nat)} {post : Ordr}, chkGo ops seen sf seg hc (pre ++ (i, x) :: post) = true →
    ∃ o, ops[i]? = some o ∧ i ∉ seen ∧ i ∉ pre.map (·.1) ∧ (∀ j ∈ bnd o, j ∈ seen ∨ j ∈ pre.map (·.1)) ∧
      (∀ p1 C ls fl, pre = p1 ++ (C, some ls) :: fl → (∀ y ∈ fl, y.2 = none) → ∃ j ∈ bnd o, j = C ∨ j ∈ fl.map (·.1)) ∧
      (∀ ls, x = some ls → ∀ g, (g ∈ sf ∨ (g, none) ∈ pre) → g ∈ ls ∨ g ∈ clo ops 4000 (bnd o) []) := by
  intro pre
  induction pre with
  | nil =>
    intro seen sf seg hc i x post h
    simp only [List.nil_append, chkGo] at h
    split at h
    · cases h
    · rename_i o ho
      simp only [Bool.and_eq_true, List.all_eq_true] at h
      obtain ⟨⟨⟨h0, h1⟩, h2⟩, h3⟩ := h
      refine ⟨o, ho, by simpa using h0, by simp, fun j hj => .inl (by simpa using h1 j hj), fun p1 C ls fl hp => by simp at hp, fun ls hx g hg => ?_⟩
      subst hx
      simp only [Bool.and_eq_true, List.all_eq_true] at h3
      have := h3.1 g (by simpa using hg)
      simpa using this
  | cons y pre ih =>
    intro seen sf seg hc i x post h
    obtain ⟨y1, y2⟩ := y
    have h' := h
    simp only [List.cons_append, chkGo] at h
    split at h
    · cases h
    · rename_i o1 ho1
      simp only [Bool.and_eq_true] at h
      obtain ⟨⟨⟨h0, h1⟩, h2⟩, h3⟩ := h
      have key : ∃ sf' seg' hc', chkGo ops (y1 :: seen) sf' seg' hc' (pre ++ (i, x) :: post) = true ∧ (∀ g ∈ sf, g ∈ sf') ∧ (y2 = none → y1 ∈ sf') ∧ (∀ ls, y2 = some ls → hc' = true ∧ seg' = [y1]) := by
        cases y2 with
        | none => exact ⟨_, _, _, h3, fun g hg => by simp [hg], fun _ => by simp, fun ls h => by cases h⟩
        | some ls =>
          simp only [Bool.and_eq_true] at h3
          exact ⟨_, _, _, h3.2, fun g hg => hg, fun h => (by cases h), fun _ _ => ⟨rfl, rfl⟩⟩
      obtain ⟨sf', seg', hc', hk, hsf, hy, hsg⟩ := key
      obtain ⟨o, ho, g1, g2, g3, g4, g5⟩ := ih hk
      refine ⟨o, ho, fun h => g1 (by simp [h]), ?_, fun j hj => ?_, fun p1 C ls fl hp hn => ?_, fun ls hx g hg => g5 ls hx g ?_⟩
      · simp only [List.map_cons, List.mem_cons, not_or]
        exact ⟨fun e => g1 (by simp [e]), g2⟩
      · rcases g3 j hj with h | h
        · rcases List.mem_cons.1 h with rfl | h
          · exact .inr (by simp)
          · exact .inl h
        · exact .inr (by simp only [List.map_cons, List.mem_cons]; exact .inr h)
      · cases p1 with
        | nil =>
          simp only [List.nil_append, List.cons.injEq, Prod.mk.injEq] at hp
          obtain ⟨⟨rfl, rfl⟩, rfl⟩ := hp
          obtain ⟨rfl, rfl⟩ := hsg _ rfl
          obtain ⟨o', ho', j, hj, hs⟩ := chkGo_seg _ hn hk
          rw [ho] at ho'; cases ho'
          exact ⟨j, hj, by simpa using hs⟩
        | cons z p1 =>
          simp only [List.cons_append, List.cons.injEq] at hp
          exact g4 p1 C ls fl hp.2 hn
      · rcases hg with hg | hg
        · exact .inl (hsf g hg)
        · rcases List.mem_cons.1 hg with h | h
          · cases h; exact .inl (hy rfl)
          · exact .inr h
theorem clo_all {p : Nat → Prop} (hp : ∀ i o, p i → ops[i]? = some o → ∀ j ∈ bnd o, p j) : ∀ (n : Nat) (todo done : List Nat), (∀ i ∈ todo, p i) → (∀ i ∈ done, p i) → ∀ i ∈ clo ops n todo done, p i := by
  intro n
  induction n with
  | zero => intro todo done _ h; exact h
  | succ n ih =>
    intro todo done ht hd
    cases todo with
    | nil => exact hd
    | cons i todo =>
      simp only [clo]
      have ht' : ∀ k ∈ todo, p k := fun k hk => ht k (by simp [hk])
      split
      · exact ih _ _ ht' hd
      · split
        · rename_i o ho
          refine ih _ _ (fun k hk => ?_) (fun k hk => ?_)
          · rcases List.mem_append.1 hk with h | h
            · exact hp i o (ht i (by simp)) ho k h
            · exact ht' k h
          · rcases List.mem_cons.1 hk with rfl | h
            · exact ht k (by simp)
            · exact hd k h
        · exact ih _ _ ht' hd
theorem floatsOf_mem : ∀ {σ : Ordr} {i : Nat}, i ∈ floatsOf σ ↔ (i, none) ∈ σ := by
  intro σ
  induction σ with
  | nil => intro i; simp [floatsOf]
  | cons y σ ih =>
    intro i
    obtain ⟨y1, y2⟩ := y
    cases y2 <;> simp [floatsOf, ih]
theorem chkSlots_spec {fl : List Nat} (h : chkSlots ops fl = true) {i : Nat} {o : Oper} (ho : ops[i]? = some o) {g t : Nat} (hg : g ∈ fl) (hd : dstIs ops g t = true) :
    (t ∈ looks ops o → g ∈ bnd o) ∧ (o.dst = some t → g = i) := by
  have hlt := (List.getElem?_eq_some_iff.1 ho).1
  simp only [chkSlots, List.all_eq_true] at h
  have h1 := h i (by simpa using hlt)
  simp only [ho, Bool.and_eq_true, List.all_eq_true] at h1
  refine ⟨fun ht => ?_, fun ht => ?_⟩
  · have := h1.1 t ht g hg
    simpa [hd] using this
  · have h2 := h1.2
    simp only [ht, List.all_eq_true] at h2
    have := h2 g hg
    simp only [hd, Bool.not_true, Bool.or_false] at this
    exact Nat.eq_of_beq_eq_true this
def Agree (ops : List Oper) (o : Oper) (fr fr' : List AV) : Prop := ∀ t ∈ looks ops o, fr.getD t .u = fr'.getD t .u
theorem Agree.op {o : Oper} (h : Agree ops o fr fr') : ∀ x ∈ o.op.operands.toList, aeval fr x = aeval fr' x := by
  intro x hx
  cases x with
  | tmp t =>
    refine h t ?_
    simp only [looks, List.mem_append, List.mem_filterMap]
    exact .inl ⟨_, hx, rfl⟩
  | _ => rfl
theorem Agree.guard {o : Oper} (h : Agree ops o fr fr') {j : Nat} {want : Bool} {t : Nat} (hg : o.guard = some (j, want)) (ht : (ops[j]?).bind (·.dst) = some t) : fr.getD t .u = fr'.getD t .u := by
  refine h t ?_
  simp only [looks, hg, ht, List.mem_append]
  exact .inr (by simp)
theorem PF_cg {o : Oper} (h : Agree ops o fr fr') (hd : ∀ d, o.dst = some d → fr.getD d .u = fr'.getD d .u) (hp : PF c o fr ch) : PF c o fr' ch := by
  unfold PF at *
  rw [← fstep_cg h.op]
  split at hp
  · rename_i obl val hv
    refine ⟨hp.1, ?_⟩
    have h2 := hp.2
    cases hdst : o.dst with
    | none => trivial
    | some d => rw [hdst] at h2; simp only at h2 ⊢; rw [← hd d hdst]; exact h2
  · exact hp.elim
theorem Fact_cg {o : Oper} (h : Agree ops o fr fr') (hd : ∀ d, o.dst = some d → fr.getD d .u = fr'.getD d .u) (hp : Fact c ops o fr ch) : Fact c ops o fr' ch := by
  unfold Fact at *
  split at hp
  · exact PF_cg h hd hp
  · rename_i j want hg
    split at hp
    · rename_i t ht
      rw [← h.guard hg ht]
      split at hp
      · rename_i b hb
        refine ⟨fun e => PF_cg h hd (hp.1 e), fun e => ?_⟩
        have := hp.2 e
        unfold SU at *
        cases hdst : o.dst with
        | none => trivial
        | some d => rw [hdst] at this; simp only at this ⊢; rw [← hd d hdst]; exact this
      · exact hp.elim
    · exact hp.elim
theorem set_same {t : Nat} {b : Bool} (h : fr.getD t .u = .s (.d (.v (.bool b)))) : fr.set t (vB b) = fr := by
  rw [List.getD_eq_getElem?_getD] at h
  cases hx : fr[t]? with
  | none => rw [hx] at h; simp at h
  | some x =>
    rw [hx] at h; simp at h
    obtain ⟨hl, he⟩ := List.getElem?_eq_some_iff.1 hx
    apply List.ext_getElem?
    intro k
    rw [List.getElem?_set]
    split
    · rename_i e; subst e; rw [hx, h]; first | rfl | (rw [if_pos hl]; rfl)
    · rfl
theorem putF_getD {dst : Option Tmp} {x : AV} {t : Nat} : (putF fr dst x).getD t .u = if dst = some t ∧ t < fr.length then x else fr.getD t .u := by
  cases dst with
  | none => simp [putF]
  | some d =>
    simp only [putF, List.getD_eq_getElem?_getD, List.getElem?_set, Option.some.injEq]
    by_cases h : d = t
    · subst h
      by_cases hl : d < fr.length
      · simp [hl]
      · simp [hl]
    · simp [h]
end Go.VC
end
section
namespace Go.VC
open Go
variable {P : Program} {w0 w w' : World} {M : Nat → Prop} {ρ0 ρ ρ' : Env} {ch0 ch ch' : List Chunk} {c : Ctx} {N : Nat} {fr fr' : List AV} {ops : List Oper}
theorem floatK_cg {o : Oper} {K K' : KS} (h : ∀ x ∈ o.op.operands.toList, aeval fr x = aeval fr' x) (hK : ∀ x ch1, K' (putF fr' o.dst x) ch1 = K (putF fr o.dst x) ch1) : floatK c o fr' ch K' = floatK c o fr ch K := by
  unfold floatK
  rw [fstep_cg h]
  simp only [hK]
theorem callK_cg {f : AV} {args : List AV} {dst : Option Tmp} {K K' : KS} (hK : ∀ x ch1, K' (putF fr' dst x) ch1 = K (putF fr dst x) ch1) : callK c f args dst fr' ch K' = callK c f args dst fr ch K := by
  unfold callK
  simp only [hK]
theorem opX_cg {o : Oper} {K K' : KS} (h : ∀ x ∈ o.op.operands.toList, aeval fr x = aeval fr' x) (hK : ∀ x ch1, K' (putF fr' o.dst x) ch1 = K (putF fr o.dst x) ch1) : opX c o fr' ch K' = opX c o fr ch K := by
  have hfl := floatK_cg (c := c) (ch := ch) h hK
  obtain ⟨dst, op, ty, pos, after, guard⟩ := o
  cases op <;> simp only [opX] <;> try exact hfl
  case store t x v =>
    have h1 := h x (by simp [Op.operands])
    have h2 := h v (by simp [Op.operands])
    simp only [h1, h2, hK]
  case call cl =>
    obtain ⟨callee, args, tys⟩ := cl
    cases callee <;> simp only <;> try exact hfl
    case value f =>
      have h1 := h f (by simp [Op.operands, Call.operands])
      have h2 : args.toList.map (aeval fr) = args.toList.map (aeval fr') := map_cg (fun x hx => h x (by simp [Op.operands, Call.operands]; right; simpa using hx))
      rw [← h1, ← h2]
      exact callK_cg hK
    case builtin b =>
      cases b <;> simp only <;> try exact hfl
      case append =>
        have ha : ∀ x ∈ args.toList, aeval fr x = aeval fr' x := fun x hx => h x (by simp [Op.operands, Call.operands]; simpa using hx)
        split
        · rename_i x y t0 t1 hx ht
          rw [ha x (by rw [hx]; simp), ha y (by rw [hx]; simp)]
          simp only [hK]
        · rfl
theorem opG_cg {o : Oper} {K K' : KS} (h : Agree ops o fr fr') (hK : ∀ x ch1, K' (putF fr' o.dst x) ch1 = K (putF fr o.dst x) ch1) : opG c ops o fr' ch K' = opG c ops o fr ch K := by
  unfold opG
  split
  · exact opX_cg h.op hK
  · rename_i j want hg
    split
    · rename_i t ht
      have hgt := h.guard hg ht
      rw [← hgt]
      split
      · rename_i b hb
        have hb' := hb
        rw [hgt] at hb'
        by_cases hbw : b = want
        · subst hbw
          rw [set_same hb, set_same hb']
          have : ¬ (b = !b) := by cases b <;> simp
          simp only [this, false_imp_iff, and_true, true_imp_iff]
          exact opX_cg h.op hK
        · have hbn : b = !want := by cases b <;> cases want <;> simp_all
          have e1 : (b = want) = False := by simp [hbw]
          have e2 : (b = !want) = True := by simp [hbn]
          have h1 := set_same hb
          have h2 := set_same hb'
          rw [hbn] at h1 h2
          rw [e1, e2, h1, h2]
          simp only [false_imp_iff, true_and, true_imp_iff]
          exact hK _ _
      · rfl
    · rfl
theorem opX_of_fstep {o : Oper} {r : FRes} (h : fstep c.tt c.wr fr ch o.op = some r) (K : KS) : opX c o fr ch K = floatK c o fr ch K := by
  obtain ⟨dst, op, ty, pos, after, guard⟩ := o
  cases op <;> try rfl
  case store => simp [fstep] at h
  case call cl =>
    obtain ⟨callee, args, tys⟩ := cl
    cases callee <;> try rfl
    case value f => simp [fstep] at h
    case builtin b =>
      cases b <;> try rfl
      case append => simp [fstep] at h
theorem Fact_opG {o : Oper} (h : Agree ops o fr fr') (hf : Fact c ops o fr ch) : opG c ops o fr' ch fun fr1 ch1 => ch1 = ch ∧ ∃ x, fr1 = putF fr' o.dst x ∧ ∀ d, o.dst = some d → fr.getD d .u = x := by
  have hx : ∀ K : KS, PF c o fr ch → (∀ val, (∀ d, o.dst = some d → fr.getD d .u = val) → K (putF fr' o.dst val) ch) → opX c o fr' ch K := by
    intro K hp hk
    unfold PF at hp
    split at hp
    · rename_i obl val hv
      have hv' := hv
      rw [fstep_cg h.op] at hv'
      rw [opX_of_fstep hv']
      unfold floatK
      rw [hv']
      refine ⟨hp.1, fun _ => ?_⟩
      have : (FRes.mk obl val [] []).ch ch = ch := by simp [FRes.ch, freezeAll]
      rw [this]
      refine hk _ (fun d hd => ?_)
      have h2 := hp.2
      rw [hd] at h2; exact h2
    · exact hp.elim
  unfold Fact at hf
  unfold opG
  cases hg : o.guard with
  | none =>
    rw [hg] at hf
    exact hx _ hf (fun val hv => ⟨rfl, val, rfl, hv⟩)
  | some p =>
    obtain ⟨j, want⟩ := p
    rw [hg] at hf
    simp only at hf ⊢
    split at hf
    · rename_i t ht
      have hgt := h.guard hg ht
      split at hf
      · rename_i b hb
        have hb' := hb
        rw [hgt] at hb'
        rw [hb']
        simp only
        refine ⟨fun e => ?_, fun e => ?_⟩
        · subst e
          rw [set_same hb']
          exact hx _ (hf.1 rfl) (fun val hv => ⟨rfl, val, rfl, hv⟩)
        · have h2 := hf.2 e
          rw [← e, set_same hb']
          refine ⟨trivial, .u, rfl, fun d hd => ?_⟩
          unfold SU at h2
          rw [hd] at h2; exact h2
      · exact hf.elim
    · exact hf.elim
theorem fOne_fact {o : Oper} {K : KS} (hself : ∀ d, o.dst = some d → d ∉ looks ops o ∧ d < fr.length) (h : fOne c ops o fr ch K) :
    ∃ x, K (putF fr o.dst x) ch ∧ Fact c ops o (putF fr o.dst x) ch := by
  have hag : ∀ x, Agree ops o fr (putF fr o.dst x) := by
    intro x t ht
    rw [putF_getD, if_neg]
    rintro ⟨hd, _⟩
    exact (hself t hd).1 ht
  have hget : ∀ x d, o.dst = some d → (putF fr o.dst x).getD d .u = x := by
    intro x d hd
    rw [putF_getD, if_pos ⟨hd, (hself d hd).2⟩]
  have hp : pureK c o fr ch K → ∃ x, K (putF fr o.dst x) ch ∧ PF c o (putF fr o.dst x) ch := by
    intro hp
    unfold pureK at hp
    split at hp
    · rename_i obl val hv
      refine ⟨val, hp.2 hp.1, ?_⟩
      unfold PF
      rw [← fstep_cg (hag val).op, hv]
      refine ⟨hp.1, ?_⟩
      cases hd : o.dst with
      | none => trivial
      | some d => simp only; rw [← hd]; exact hget val d hd
    · exact hp.elim
  unfold fOne at h
  unfold Fact
  cases hg : o.guard with
  | none =>
    rw [hg] at h
    exact hp h
  | some p =>
    obtain ⟨j, want⟩ := p
    rw [hg] at h
    simp only at h ⊢
    split at h
    · rename_i t ht
      split at h
      · rename_i b hb
        by_cases hbw : b = want
        · subst hbw
          rw [set_same hb] at h
          obtain ⟨x, hk, hpf⟩ := hp (h.1 rfl)
          refine ⟨x, hk, ?_⟩
          rw [← (hag x).guard hg ht, hb]
          exact ⟨fun _ => hpf, fun e => by cases b <;> simp at e⟩
        · have hbn : b = !want := by cases b <;> cases want <;> simp_all
          have h2 := h.2 hbn
          rw [← hbn, set_same hb] at h2
          refine ⟨.u, h2, ?_⟩
          rw [← (hag .u).guard hg ht, hb]
          refine ⟨fun e => absurd e hbw, fun _ => ?_⟩
          unfold SU
          cases hd : o.dst with
          | none => trivial
          | some d => simp only; rw [← hd]; exact hget .u d hd
      · exact h.elim
    · exact h.elim
structure OrdOk (ops : List Oper) (σ : Ordr) : Prop where
  all : ∀ i, i < ops.length → ∃ x, (i, x) ∈ σ
  go : ∀ pre i x post, σ = pre ++ (i, x) :: post → ∃ o, ops[i]? = some o ∧ i ∉ pre.map (·.1) ∧ (∀ j ∈ bnd o, j ∈ pre.map (·.1)) ∧
      (∀ p1 C ls fl, pre = p1 ++ (C, some ls) :: fl → (∀ y ∈ fl, y.2 = none) → ∃ j ∈ bnd o, j = C ∨ j ∈ fl.map (·.1)) ∧
      (∀ ls, x = some ls → ∀ g, (g, none) ∈ pre → g ∈ ls ∨ g ∈ clo ops 4000 (bnd o) [])
  sl : ∀ i o, ops[i]? = some o → ∀ g t, (g, none) ∈ σ → dstIs ops g t = true → (t ∈ looks ops o → g ∈ bnd o) ∧ (o.dst = some t → g = i)
theorem drawChk_ok {σ : Ordr} (h : drawChk ops σ = true) : OrdOk ops σ := by
  simp only [drawChk, Bool.and_eq_true, List.all_eq_true] at h
  obtain ⟨⟨h1, h2⟩, h3⟩ := h
  refine ⟨fun i hi => ?_, fun pre i x post hs => ?_, fun i o ho g t hg hd => chkSlots_spec h3 ho (floatsOf_mem.2 hg) hd⟩
  · have := h1 i (by simpa using hi)
    simp only [List.contains_eq_mem, List.mem_map, decide_eq_true_eq] at this
    obtain ⟨⟨y1, y2⟩, hy, rfl⟩ := this
    exact ⟨y2, hy⟩
  · rw [hs] at h2
    obtain ⟨o, ho, _, g2, g3, g4, g5⟩ := chkGo_spec pre h2
    exact ⟨o, ho, g2, fun j hj => (g3 j hj).resolve_left (by simp), g4, fun ls hx g hg => g5 ls hx g (.inr hg)⟩
theorem OrdOk.uniq {σ : Ordr} (h : OrdOk ops σ) {i : Nat} {x y : Option (List Nat)} (hx : (i, x) ∈ σ) (hy : (i, y) ∈ σ) : x = y := by
  obtain ⟨p, q, rfl⟩ := List.append_of_mem hx
  obtain ⟨o, ho, h1, _⟩ := h.go p i x q rfl
  rcases List.mem_append.1 hy with hm | hm
  · exact absurd (List.mem_map.2 ⟨_, hm, rfl⟩) h1
  · rcases List.mem_cons.1 hm with e | hm
    · cases e; rfl
    · obtain ⟨p2, q2, rfl⟩ := List.append_of_mem hm
      obtain ⟨_, _, h2, _⟩ := h.go (p ++ (i, x) :: p2) i y q2 (by simp)
      exact absurd (by simp) h2
theorem OrdOk.after {σ pre post : Ordr} (h : OrdOk ops σ) (hs : σ = pre ++ post) {i : Nat} {x : Option (List Nat)} (hx : (i, x) ∈ post) : i ∉ pre.map (·.1) := by
  obtain ⟨p2, q2, rfl⟩ := List.append_of_mem hx
  obtain ⟨_, _, h2, _⟩ := h.go (pre ++ p2) i x q2 (by rw [hs]; simp)
  intro hm
  exact h2 (by rw [List.map_append, List.mem_append]; exact .inl hm)
theorem seg_ok {σ : Ordr} (hO : OrdOk ops σ) (hlen : ∀ o ∈ ops, ∀ d, o.dst = some d → d < fr.length) : ∀ (rest : Ordr) (pre : Ordr) (fr1 : List AV) {K : KS}, σ = pre ++ rest → fr1.length = fr.length → drawK c ops rest fr1 ch K →
    ∃ fl rest' fr', rest = fl ++ rest' ∧ (∀ y ∈ fl, y.2 = none) ∧ (rest' = [] ∨ ∃ i ls σ', rest' = (i, some ls) :: σ') ∧ drawK c ops rest' fr' ch K ∧ fr'.length = fr.length ∧
      (∀ i x o, (i, x) ∈ fl → ops[i]? = some o → Fact c ops o fr' ch) ∧ (∀ t, fr'.getD t .u = fr1.getD t .u ∨ ∃ i, (i, none) ∈ fl ∧ dstIs ops i t = true) := by
  intro rest
  induction rest with
  | nil => intro pre fr1 K hs hl h; exact ⟨[], [], fr1, rfl, by simp, .inl rfl, h, hl, by simp, fun t => .inl rfl⟩
  | cons y rest ih =>
    intro pre fr1 K hs hl h
    obtain ⟨i, x⟩ := y
    cases x with
    | some ls => exact ⟨[], (i, some ls) :: rest, fr1, rfl, by simp, .inr ⟨i, ls, rest, rfl⟩, h, hl, by simp, fun t => .inl rfl⟩
    | none =>
      obtain ⟨o, ho, hnp, hb, _, _⟩ := hO.go pre i none rest hs
      simp only [drawK, ho] at h
      have hmem : (i, none) ∈ σ := by rw [hs]; simp
      have hdst : ∀ d, o.dst = some d → dstIs ops i d = true := fun d hd => by simp [dstIs, ho, hd]
      have hself : ∀ d, o.dst = some d → d ∉ looks ops o ∧ d < fr1.length := fun d hd => by
        refine ⟨fun hm => ?_, by rw [hl]; exact hlen o (List.mem_of_getElem? ho) d hd⟩
        have := (hO.sl i o ho i d hmem (hdst d hd)).1 hm
        exact hnp (hb i this)
      obtain ⟨v, hk, hfact⟩ := fOne_fact hself h
      obtain ⟨fl, rest', fr', he, hn, hh, hk', hl', hf', hg'⟩ := ih (pre ++ [(i, none)]) (putF fr1 o.dst v) (by rw [hs]; simp) (by rw [putF_length]; exact hl) hk
      have hlater : ∀ g, (g, none) ∈ fl → ∀ t, dstIs ops g t = true → t ∉ looks ops o ∧ o.dst ≠ some t := by
        intro g hg t ht
        have hgm : (g, none) ∈ rest := by rw [he]; simp [hg]
        have hgσ : (g, none) ∈ σ := by rw [hs]; simp [hgm]
        have hga := hO.after (pre := pre ++ [(i, none)]) (post := rest) (by rw [hs]; simp) hgm
        obtain ⟨h1, h2⟩ := hO.sl i o ho g t hgσ ht
        refine ⟨fun hm => hga ?_, fun hd => hga ?_⟩
        · rw [List.map_append, List.mem_append]; exact .inl (hb g (h1 hm))
        · rw [h2 hd]; simp
      refine ⟨(i, none) :: fl, rest', fr', by rw [he]; simp, ?_, hh, hk', hl', ?_, ?_⟩
      · intro y hy
        rcases List.mem_cons.1 hy with rfl | hy
        · rfl
        · exact hn y hy
      · intro j x o' hj ho'
        rcases List.mem_cons.1 hj with e | hj
        · cases e
          rw [ho] at ho'; cases ho'
          refine Fact_cg (fun t ht => ?_) (fun d hd => ?_) hfact
          · rcases hg' t with h | ⟨g, hg, hgt⟩
            · exact h.symm
            · exact absurd ht (hlater g hg t hgt).1
          · rcases hg' d with h | ⟨g, hg, hgt⟩
            · exact h.symm
            · exact absurd hd (hlater g hg d hgt).2
        · exact hf' j x o' hj ho'
      · intro t
        rcases hg' t with h | ⟨g, hg, hgt⟩
        · rw [h, putF_getD]
          split
          · rename_i hd
            exact .inr ⟨i, by simp, hdst t hd.1⟩
          · exact .inl rfl
        · exact .inr ⟨g, by simp [hg], hgt⟩
end Go.VC
end
section
namespace Go.VC
open Go
variable {P : Program} {G : Wd} {w0 w w' : World} {M : Nat → Prop} {ρ0 ρ ρ' : Env} {ch0 ch ch' : List Chunk} {c : Ctx} {N : Nat} {fr fr' : List AV}
def mskd (ops : List Oper) (fl : List Nat) (listed : Array Bool) (t : Nat) : Bool := fl.any fun g => !listed.getD g false && dstIs ops g t
def mask (ops : List Oper) (fl : List Nat) (listed : Array Bool) (fr : List AV) : List AV := fr.mapIdx fun t x => if mskd ops fl listed t then .u else x
theorem mask_len {ops : List Oper} {fl : List Nat} {listed : Array Bool} : (mask ops fl listed fr).length = fr.length := by simp [mask]
theorem mask_get {ops : List Oper} {fl : List Nat} {listed : Array Bool} {t : Nat} : (mask ops fl listed fr).getD t .u = if mskd ops fl listed t then .u else fr.getD t .u := by
  simp only [mask, List.getD_eq_getElem?_getD, List.getElem?_mapIdx]
  cases fr[t]? <;> simp
theorem mskd_spec {ops : List Oper} {fl : List Nat} {listed : Array Bool} {t : Nat} : mskd ops fl listed t = true ↔ ∃ g ∈ fl, listed.getD g false = false ∧ dstIs ops g t = true := by
  simp [mskd, List.any_eq_true]
theorem VF.weaken {fr1 fr2 : List AV} {tmps : Array Value} (h : VF w ρ ch fr1 tmps) (hl : fr2.length = fr1.length) (hp : ∀ t, fr2.getD t .u = .u ∨ fr2.getD t .u = fr1.getD t .u) : VF w ρ ch fr2 tmps := by
  refine ⟨hl.trans h.1, fun t av ht => ?_⟩
  have hlt := (List.getElem?_eq_some_iff.1 ht).1
  have hg : fr2.getD t .u = av := by rw [List.getD_eq_getElem?_getD, ht]; rfl
  rcases hp t with hu | hu
  · rw [hg] at hu; subst hu; trivial
  · have := getD_ok h t
    rw [← hu, hg] at this
    exact this
def cf : List Bool → Nat
  | [] => 0
  | true :: l => cf l
  | false :: l => cf l + 1
theorem cf_set : ∀ {l : List Bool} {i : Nat}, l[i]? = some false → cf (l.set i true) + 1 = cf l := by
  intro l
  induction l with
  | nil => intro i h; simp at h
  | cons b l ih =>
    intro i h
    cases i with
    | zero => simp at h; subst h; simp [cf]
    | succ i =>
      have := ih (i := i) (by simpa using h)
      cases b <;> simp [cf] <;> omega
theorem cf_zero : ∀ {l : List Bool} {i : Nat} {b : Bool}, cf l = 0 → l[i]? = some b → b = true := by
  intro l
  induction l with
  | nil => intro i b _ h; simp at h
  | cons x l ih =>
    intro i b h hi
    cases x with
    | false => simp [cf] at h
    | true =>
      cases i with
      | zero => simp at hi; first | exact hi.symm | exact hi
      | succ i => exact ih h (by simpa using hi)
theorem cf_rep : ∀ n, cf (List.replicate n false) = n := by
  intro n
  induction n with
  | zero => rfl
  | succ n ih => simp [List.replicate_succ, cf, ih]
theorem first_of {α} {p : α → Prop} [DecidablePred p] : ∀ {l : List α}, (∃ y ∈ l, p y) → ∃ pre y post, l = pre ++ y :: post ∧ p y ∧ ∀ z ∈ pre, ¬ p z := by
  intro l
  induction l with
  | nil => rintro ⟨y, hy, _⟩; simp at hy
  | cons x l ih =>
    rintro ⟨y, hy, hp⟩
    by_cases hx : p x
    · exact ⟨[], x, l, rfl, hx, by simp⟩
    · rcases List.mem_cons.1 hy with rfl | hy
      · exact absurd hp hx
      · obtain ⟨pre, z, post, he, hz, hpre⟩ := ih ⟨y, hy, hp⟩
        refine ⟨x :: pre, z, post, by rw [he]; rfl, hz, fun u hu => ?_⟩
        rcases List.mem_cons.1 hu with rfl | hu
        · exact hx
        · exact hpre u hu
theorem last_some : ∀ l : Ordr, (∀ y ∈ l, y.2 = none) ∨ ∃ p1 C ls fl, l = p1 ++ (C, some ls) :: fl ∧ ∀ y ∈ fl, y.2 = none := by
  intro l
  induction l with
  | nil => exact .inl (by simp)
  | cons y l ih =>
    rcases ih with h | ⟨p1, C, ls, fl, h1, h2⟩
    · obtain ⟨y1, y2⟩ := y
      cases y2 with
      | none =>
        refine .inl (fun z hz => ?_)
        rcases List.mem_cons.1 hz with rfl | hz
        · rfl
        · exact h z hz
      | some ls => exact .inr ⟨[], y1, ls, l, rfl, h⟩
    · exact .inr ⟨y :: p1, C, ls, fl, by rw [h1]; rfl, h2⟩
theorem reAll_ok {ops : List Oper} {p : Prop} : ∀ {ls : List Nat}, reAll c ops ls fr ch p → p ∧ ∀ i ∈ ls, ∃ o, ops[i]? = some o ∧ Fact c ops o fr ch := by
  intro ls
  induction ls with
  | nil => intro h; exact ⟨h, by simp⟩
  | cons i ls ih =>
    intro h
    simp only [reAll] at h
    split at h
    · rename_i o ho
      obtain ⟨h1, h2⟩ := ih h.2
      refine ⟨h1, fun j hj => ?_⟩
      rcases List.mem_cons.1 hj with rfl | hj
      · exact ⟨o, ho, h.1⟩
      · exact h2 j hj
    · exact h.elim
structure DI (c : Ctx) (N : Nat) (w0 : World) (M : Nat → Prop) (ρ0 : Env) (ch0 : List Chunk) (K : KS) (ops : Array Oper) (σ : Ordr) (listed : Array Bool) (a : Act) (w : World) : Prop where
  ex : ∃ done rest fr ch ρ, σ = done ++ rest ∧ (rest = [] ∨ ∃ i ls σ', rest = (i, some ls) :: σ') ∧ drawK c ops.toList rest fr ch K ∧
    (∀ i o, (i, none) ∈ done → listed.getD i false = false → ops.toList[i]? = some o → Fact c ops.toList o fr ch) ∧
    (∀ i ls, (i, some ls) ∈ done → listed.getD i false = true) ∧ (∀ y ∈ rest, listed.getD y.1 false = false) ∧
    Inv N w0 M ρ0 ch0 (mask ops.toList (floatsOf σ) listed fr) ch ρ a w
  sz : listed.size = ops.size
  cl : ∀ i o, listed.getD i false = true → ops.toList[i]? = some o → ∀ j ∈ bnd o, listed.getD j false = true
theorem bnd_mem {o : Oper} {j : Nat} : j ∈ bnd o ↔ ∃ e ∈ o.after, Region.binds .any e = true ∧ e.on = j := by
  simp only [bnd, List.mem_map, List.mem_filter, Array.mem_toList_iff]
  constructor
  · rintro ⟨e, ⟨h1, h2⟩, h3⟩; exact ⟨e, h1, h2, h3⟩
  · rintro ⟨e, h1, h2, h3⟩; exact ⟨e, ⟨h1, h2⟩, h3⟩
theorem getD_set {listed : Array Bool} {i j : Nat} (hi : i < listed.size) : (listed.setIfInBounds i true).getD j false = (if i = j then true else listed.getD j false) := by
  split
  · rename_i e; subst e; simp [hi]
  · rename_i e; rw [getD_set_ne false e]
theorem getD_size {listed : Array Bool} {i : Nat} (h : listed.getD i true = false) : i < listed.size ∧ listed.getD i false = false := by
  rcases Nat.lt_or_ge i listed.size with hl | hl
  · simp [hl] at h ⊢; exact h
  · rw [Array.getD_eq_getD_getElem?, Array.getElem?_eq_none hl] at h; simp at h
theorem draw_any (hC : CtxOk P G c) (hG : G.p w0 (Own ρ0 ch0)) {ops : Array Oper} {σ : Ordr} (hO : OrdOk ops.toList σ) {K : KS} {Q : Exit → Act → World → Prop} (hQ : ∀ a w, After N w0 M ρ0 ch0 K a w → Q .normal a w)
    (hlen : ∀ o ∈ ops.toList, ∀ d, o.dst = some d → d < N) :
    ∀ (fuel : Nat) (listed : Array Bool) (a : Act) (w : World), cf listed.toList ≤ fuel → DI c N w0 M ρ0 ch0 K ops σ listed a w → wpAny P .any ops Q fuel listed a w := by
  have hdone : ∀ (listed : Array Bool) (a : Act) (w : World), DI c N w0 M ρ0 ch0 K ops σ listed a w → Region.ready .any ops listed = [] → Q .normal a w := by
    intro listed a w hD hr
    obtain ⟨⟨done, rest, fr, ch, ρ, hs, hh, hk, hf, hc, hrs, hI⟩, hsz, hcl⟩ := hD
    have hall : ∀ y ∈ σ, listed.getD y.1 false = true := by
      intro y hy
      cases hly : listed.getD y.1 false with
      | true => rfl
      | false =>
        obtain ⟨pre, z, post, he, hz, hpre⟩ := first_of (p := fun (y : Nat × Option (List Nat)) => listed.getD y.1 false = false) ⟨y, hy, hly⟩
        obtain ⟨i, x⟩ := z
        obtain ⟨o, ho, _, hb, _, _⟩ := hO.go pre i x post he
        have hi : i < ops.size := by simpa using (List.getElem?_eq_some_iff.1 ho).1
        have : i ∈ Region.ready .any ops listed := by
          rw [mem_ready]
          refine ⟨?_, o, by simpa using ho, fun e he hbe => ?_⟩
          · simp only at hz
            have : i < listed.size := hsz ▸ hi
            simp [this] at hz ⊢; exact hz
          · have hj := hb e.on (bnd_mem.2 ⟨e, he, hbe, rfl⟩)
            obtain ⟨u, hu, hue⟩ := List.mem_map.1 hj
            have := hpre u hu
            rw [hue] at this
            simpa using this
        rw [hr] at this
        cases this
    have hrest : rest = [] := by
      rcases hh with h | ⟨i, ls, σ', h⟩
      · exact h
      · have h1 := hrs (i, some ls) (by rw [h]; simp)
        rw [hall (i, some ls) (by rw [hs, h]; simp)] at h1
        cases h1
    subst hrest
    refine hQ a w ⟨fr, ch, ρ, hk, hI.rep, hI.ext, hI.vf.weaken mask_len.symm (fun t => .inr ?_), hI.df, mask_len.symm.trans hI.sz⟩
    rw [mask_get, if_neg]
    intro h
    obtain ⟨g, hg, hgl, _⟩ := mskd_spec.1 h
    rw [hall (g, none) (floatsOf_mem.1 hg)] at hgl
    cases hgl
  intro fuel
  induction fuel with
  | zero =>
    intro listed a w hn hD
    have hr : Region.ready .any ops listed = [] := by
      rw [List.eq_nil_iff_forall_not_mem]
      intro i hi
      have h0 := (mem_ready.1 hi).1
      obtain ⟨hl, h1⟩ := getD_size h0
      have : listed.toList[i]? = some false := by simp [hl] at h1 ⊢; exact h1
      have := cf_zero (by omega : cf listed.toList = 0) this
      cases this
    exact ⟨hr, hdone _ _ _ hD hr⟩
  | succ fuel ih =>
    intro listed a w hn hD
    refine ⟨fun hr => hdone _ _ _ hD hr, fun j hj => ?_⟩
    obtain ⟨⟨done, rest, fr, ch, ρ, hs, hh, hk, hf, hc, hrs, hI⟩, hsz, hcl⟩ := hD
    obtain ⟨h0, o, ho, hready⟩ := mem_ready.1 hj
    obtain ⟨hjl, hju⟩ := getD_size h0
    have hbl : ∀ i ∈ bnd o, listed.getD i false = true := fun i hi => by
      obtain ⟨e, he, hb, rfl⟩ := bnd_mem.1 hi
      exact hready e he hb
    have hoL : ops.toList[j]? = some o := by simpa using ho
    have hjlt : j < ops.toList.length := (List.getElem?_eq_some_iff.1 hoL).1
    have hcf : cf (listed.setIfInBounds j true).toList ≤ fuel := by
      have h1 : listed.toList[j]? = some false := by simp [hjl] at hju ⊢; exact hju
      have := cf_set h1
      rw [Array.toList_setIfInBounds]; omega
    have hset : ∀ i, (listed.setIfInBounds j true).getD i false = (if j = i then true else listed.getD i false) := fun i => getD_set hjl
    have hcl' : ∀ i o', (listed.setIfInBounds j true).getD i false = true → ops.toList[i]? = some o' → ∀ k ∈ bnd o', (listed.setIfInBounds j true).getD k false = true := by
      intro i o' hi ho' k hk
      rw [hset] at hi ⊢
      split
      · rfl
      · split at hi
        · rename_i e; subst e
          rw [hoL] at ho'; cases ho'
          exact hbl k hk
        · exact hcl i o' hi ho' k hk
    have hag : Agree ops.toList o fr (mask ops.toList (floatsOf σ) listed fr) := by
      intro t ht
      rw [mask_get, if_neg]
      intro h
      obtain ⟨g, hg, hgl, hgt⟩ := mskd_spec.1 h
      have := (hO.sl j o hoL g t (floatsOf_mem.1 hg) hgt).1 ht
      rw [hbl g this] at hgl
      cases hgl
    have hfrN : fr.length = N := mask_len.symm.trans hI.sz
    obtain ⟨x, hx⟩ := hO.all j hjlt
    have run : ∀ {K' : KS}, opG c ops.toList o (mask ops.toList (floatsOf σ) listed fr) ch K' → (∀ a w, After N w0 M ρ0 ch0 K' a w → DI c N w0 M ρ0 ch0 K ops σ (listed.setIfInBounds j true) a w) → wpOp P ops Q j (wpAny P .any ops Q fuel (listed.setIfInBounds j true)) a w := by
      intro K' hop hnext
      have := opG_ok hC hG (ops := ops) hI hop (Q := Q) (Kc := wpAny P .any ops Q fuel (listed.setIfInBounds j true)) (fun a w h => ih _ a w hcf (hnext a w h))
      unfold wpOp
      simp only [ho]
      split
      · rename_i hw; rw [if_pos hw] at this; exact .inl this
      · rename_i hw; rw [if_neg hw] at this; exact this
    rcases List.mem_append.1 (hs ▸ hx) with hx' | hx'
    · 
      cases x with
      | some ls => rw [hc j ls hx'] at hju; cases hju
      | none =>
        have hfact := hf j o hx' hju hoL
        refine run (Fact_opG hag hfact) ?_
        rintro a1 w1 ⟨fr1, ch1, ρ1, ⟨rfl, v, rfl, hv⟩, hI1⟩
        refine ⟨⟨done, rest, fr, ch1, ρ1, hs, hh, hk, fun i o' hi hl ho' => ?_, fun i ls hi => ?_, fun y hy => ?_, ?_⟩, by simpa using hsz, hcl'⟩
        · rw [hset] at hl
          split at hl
          · cases hl
          · exact hf i o' hi hl ho'
        · rw [hset]; split
          · rfl
          · exact hc i ls hi
        · rw [hset]; split
          · rename_i e
            have := hO.after hs (i := j) (x := y.2) (by rw [e]; exact hy)
            exact absurd (List.mem_map.2 ⟨_, hx', rfl⟩) this
          · exact hrs y hy
        · refine ⟨hI1.rep, hI1.ext, hI1.vf.weaken (by rw [putF_length, mask_len, mask_len]) (fun t => ?_), hI1.df, mask_len.trans hfrN⟩
          rw [mask_get, putF_getD, mask_get, mask_len]
          by_cases hm' : mskd ops.toList (floatsOf σ) (listed.setIfInBounds j true) t = true
          · left; rw [if_pos hm']
          · right
            rw [if_neg hm']
            by_cases hd : o.dst = some t
            · by_cases hl : t < fr.length
              · rw [if_pos ⟨hd, hl⟩]; exact hv t hd
              · rw [if_neg (fun h => hl h.2)]
                have : fr.getD t .u = .u := by rw [List.getD_eq_getElem?_getD, List.getElem?_eq_none (Nat.le_of_not_lt hl)]; rfl
                rw [this]; split <;> rfl
            · rw [if_neg (fun h => hd h.1), if_neg]
              intro hm
              obtain ⟨g, hg, hgl, hgt⟩ := mskd_spec.1 hm
              refine hm' (mskd_spec.2 ⟨g, hg, ?_, hgt⟩)
              rw [hset, if_neg]
              · exact hgl
              · rintro rfl
                simp only [dstIs, hoL, Option.bind_some] at hgt
                split at hgt
                · rename_i d hd2
                  rw [Nat.eq_of_beq_eq_true hgt] at hd2; exact hd hd2
                · cases hgt
    · 
      rcases hh with hh | ⟨i, ls, σ', hh⟩
      · rw [hh] at hx'; cases hx'
      rw [hh] at hx'
      have hji : j = i ∧ x = some ls := by
        rcases List.mem_cons.1 hx' with e | hx'
        · cases e; exact ⟨rfl, rfl⟩
        · exfalso
          obtain ⟨p2, q2, hpq⟩ := List.append_of_mem hx'
          obtain ⟨p1, C, ls1, fl1, hsp, hfl1⟩ : ∃ p1 C ls1 fl1, (i, some ls) :: p2 = p1 ++ (C, some ls1) :: fl1 ∧ ∀ y ∈ fl1, y.2 = none := by
            rcases last_some p2 with h | ⟨p1, C, ls1, fl1, h1, h2⟩
            · exact ⟨[], i, ls, p2, rfl, h⟩
            · exact ⟨(i, some ls) :: p1, C, ls1, fl1, by rw [h1]; rfl, h2⟩
          obtain ⟨o', ho', _, _, h4, _⟩ := hO.go (done ++ (i, some ls) :: p2) j x q2 (by rw [hs, hh, hpq]; simp)
          rw [hoL] at ho'; cases ho'
          obtain ⟨k, hk1, hk2⟩ := h4 (done ++ p1) C ls1 fl1 (by rw [hsp, List.append_assoc]) hfl1
          have hkr : ∃ y ∈ rest, y.1 = k := by
            have : ∃ y ∈ (i, some ls) :: p2, y.1 = k := by
              rw [hsp]
              rcases hk2 with rfl | hk2
              · exact ⟨(k, some ls1), by simp, rfl⟩
              · obtain ⟨u, hu, hue⟩ := List.mem_map.1 hk2
                exact ⟨u, by simp [hu], hue⟩
            obtain ⟨y, hy, hye⟩ := this
            refine ⟨y, ?_, hye⟩
            rw [hh, hpq]
            rcases List.mem_cons.1 hy with rfl | hy
            · simp
            · simp [hy]
          obtain ⟨y, hy, rfl⟩ := hkr
          have h1 := hrs y hy
          rw [hbl _ hk1] at h1
          cases h1
      obtain ⟨rfl, rfl⟩ := hji
      rw [hh] at hk
      simp only [drawK, hoL] at hk
      obtain ⟨o', ho', hnp, _, _, hloose⟩ := hO.go done j (some ls) σ' (by rw [hs, hh])
      rw [hoL] at ho'; cases ho'
      have hmaskj : ∀ t, mskd ops.toList (floatsOf σ) listed t = mskd ops.toList (floatsOf σ) (listed.setIfInBounds j true) t := by
        intro t
        rw [Bool.eq_iff_iff, mskd_spec, mskd_spec]
        have hne : ∀ g, g ∈ floatsOf σ → ¬ j = g := by
          rintro g hg rfl
          have := hO.uniq (floatsOf_mem.1 hg) hx
          cases this
        constructor
        · rintro ⟨g, hg, h1, h2⟩; exact ⟨g, hg, by rw [hset, if_neg (hne g hg)]; exact h1, h2⟩
        · rintro ⟨g, hg, h1, h2⟩; exact ⟨g, hg, by rw [hset, if_neg (hne g hg)] at h1; exact h1, h2⟩
      refine run (K' := fun fr1 ch1 => ∃ v, fr1 = putF (mask ops.toList (floatsOf σ) listed fr) o.dst v ∧ reAll c ops.toList ls (putF fr o.dst v) ch1 (drawK c ops.toList σ' (putF fr o.dst v) ch1 K)) ?_ ?_
      · rw [opG_cg hag]
        · exact hk
        · intro v ch1
          refine propext ⟨?_, fun h => ⟨v, rfl, h⟩⟩
          rintro ⟨v', he, h⟩
          have : putF fr o.dst v = putF fr o.dst v' := by
            cases hd : o.dst with
            | none => rfl
            | some d =>
              rw [hd] at he
              simp only [putF] at he ⊢
              by_cases hl : d < fr.length
              · have := congrArg (fun l => l[d]?) he
                simp only [List.getElem?_set] at this
                simp [mask_len, hl] at this
                rw [this]
              · rw [List.set_eq_of_length_le (Nat.le_of_not_lt hl), List.set_eq_of_length_le (Nat.le_of_not_lt hl)]
          rw [this]; exact h
      · rintro a1 w1 ⟨fr1, ch1, ρ1, ⟨v, rfl, hre⟩, hI1⟩
        obtain ⟨hk', hls⟩ := reAll_ok hre
        obtain ⟨fl, rest', fr', he, hn', hh', hk'', hl', hf', hg'⟩ := seg_ok (fr := fr) hO (fun o ho d hd => by rw [hfrN]; exact hlen o ho d hd) σ' (done ++ [(j, some ls)]) (putF fr o.dst v) (by rw [hs, hh]; simp) putF_length hk'
        have hlater : ∀ g, (g, none) ∈ fl → g ∉ (done ++ [(j, some ls)]).map (·.1) := by
          intro g hg
          exact hO.after (post := σ') (by rw [hs, hh]; simp) (x := none) (by rw [he]; simp [hg])
        have hrl : ∀ y ∈ σ', (listed.setIfInBounds j true).getD y.1 false = false := by
          intro y hy
          rw [hset, if_neg]
          · exact hrs y (by rw [hh]; simp [hy])
          · rintro rfl
            have := hO.after (pre := done ++ [(y.1, some ls)]) (post := σ') (by rw [hs, hh]; simp) (i := y.1) (x := y.2) hy
            exact this (by simp)
        refine ⟨⟨done ++ [(j, some ls)] ++ fl, rest', fr', ch1, ρ1, by rw [hs, hh, he]; simp, hh', hk'', fun i o' hi hl ho' => ?_, fun i ls' hi => ?_, fun y hy => hrl y (by rw [he]; simp [hy]), ?_⟩, by simpa using hsz, hcl'⟩
        · rcases List.mem_append.1 hi with hi | hi
          · rcases List.mem_append.1 hi with hi | hi
            · 
              have hne : ¬ j = i := by
                rintro rfl
                rw [hset, if_pos rfl] at hl; cases hl
              rw [hset, if_neg hne] at hl
              have hin : i ∈ ls := by
                rcases hloose ls rfl i hi with h | h
                · exact h
                · have := clo_all (p := fun k => listed.getD k false = true) (fun k o2 h1 h2 k2 h3 => hcl k o2 h1 h2 k2 h3) 4000 (bnd o) [] hbl (by simp) i h
                  rw [this] at hl; cases hl
              obtain ⟨o2, ho2, hfa⟩ := hls i hin
              rw [ho'] at ho2; cases ho2
              obtain ⟨p, q, hpq⟩ := List.append_of_mem hi
              obtain ⟨o3, ho3, _, hb3, _⟩ := hO.go p i none (q ++ rest) (by rw [hs, hpq]; simp)
              rw [ho'] at ho3; cases ho3
              have hlate2 : ∀ g, (g, none) ∈ fl → ∀ t, dstIs ops.toList g t = true → t ∉ looks ops.toList o' ∧ o'.dst ≠ some t := by
                intro g hg t ht
                have hgσ : (g, none) ∈ σ := by rw [hs, hh, he]; simp [hg]
                obtain ⟨h1, h2⟩ := hO.sl i o' ho' g t hgσ ht
                have hga := hlater g hg
                refine ⟨fun hm => hga ?_, fun hd => hga ?_⟩
                · have := hb3 g (h1 hm)
                  rw [hpq]
                  simp only [List.map_append, List.mem_append] at this ⊢
                  exact .inl (.inl this)
                · rw [h2 hd, List.map_append, List.mem_append]
                  exact .inl (List.mem_map.2 ⟨_, hi, rfl⟩)
              refine Fact_cg (fun t ht => ?_) (fun d hd => ?_) hfa
              · rcases hg' t with h | ⟨g, hg, hgt⟩
                · exact h.symm
                · exact absurd ht (hlate2 g hg t hgt).1
              · rcases hg' d with h | ⟨g, hg, hgt⟩
                · exact h.symm
                · exact absurd hd (hlate2 g hg d hgt).2
            · simp at hi
          · exact hf' i none o' hi ho'
        · rw [hset]
          by_cases hne : j = i
          · rw [if_pos hne]
          · rw [if_neg hne]
            rcases List.mem_append.1 hi with hi | hi
            · rcases List.mem_append.1 hi with hi | hi
              · exact hc i ls' hi
              · simp at hi
                exact absurd hi.1.symm hne
            · have := hn' _ hi
              cases this
        · refine ⟨hI1.rep, hI1.ext, hI1.vf.weaken (by rw [putF_length, mask_len, mask_len]; exact hl') (fun t => ?_), hI1.df, mask_len.trans (hl'.trans hfrN)⟩
          rw [mask_get, putF_getD, mask_get, mask_len]
          by_cases hm' : mskd ops.toList (floatsOf σ) (listed.setIfInBounds j true) t = true
          · left; rw [if_pos hm']
          · right
            have hm2 : mskd ops.toList (floatsOf σ) listed t = false := by rw [hmaskj]; simpa using hm'
            rw [if_neg hm', hm2]
            simp only [Bool.false_eq_true, if_false]
            rcases hg' t with h | ⟨g, hg, hgt⟩
            · rw [h, putF_getD]
            · exfalso
              refine hm' (mskd_spec.2 ⟨g, floatsOf_mem.2 (by rw [hs, hh, he]; simp [hg]), hrl (g, none) (by rw [he]; simp [hg]), hgt⟩)
theorem draw_ok (hC : CtxOk P G c) (hG : G.p w0 (Own ρ0 ch0)) {id : Nat} {ops : Array Oper} {σ : Ordr} (hchk : drawChk ops.toList σ = true) {K : KS} {Q : Exit → Act → World → Prop} (hQ : ∀ a w, After N w0 M ρ0 ch0 K a w → Q .normal a w)
    (hlen : ∀ o ∈ ops.toList, ∀ d, o.dst = some d → d < N) {a : Act} (hI : Inv N w0 M ρ0 ch0 fr ch ρ a w) (h : drawK c ops.toList σ fr ch K) : (Code.region id ops true).wp P Q a w := by
  have hO := drawChk_ok hchk
  refine wp_region_any hC.fol ?_
  have hI' : Inv N w0 M ρ0 ch0 fr ch ρ a { w with drawn := w.drawn + 1 } := by
    have hE : Ext w ρ ch { w with drawn := w.drawn + 1 } ρ ch := by
      refine ⟨fun _ _ h => ⟨rfl, h⟩, fun _ _ => rfl, rfl, fun i k hk => ⟨k, hk, ?_⟩⟩
      cases k <;> simp [Turns]
      intro b cur t x y _ h; exact ⟨cur, ⟨t, x, y, h⟩, rfl⟩
    exact ⟨⟨⟨hI.rep.wok.os, hI.rep.wok.tape, hI.rep.wok.output, hI.rep.wok.size, hI.rep.wok.block⟩, fun i k hk => ChunkRep.ext hE (fun _ _ _ => rfl) (hI.rep.chunk i k hk), hI.rep.inj, hI.rep.new, hI.rep.far⟩,
      hI.ext.trans hE hI.rep.wok.size, VF.ext hE hI.vf, hI.df, hI.sz⟩
  obtain ⟨fl, rest, fr', he, hn, hh, hk, hl, hf, hg⟩ := seg_ok (fr := fr) hO (fun o ho d hd => by rw [hI.sz]; exact hlen o ho d hd) σ [] fr rfl rfl h
  refine draw_any hC hG hO hQ hlen ops.size _ a _ (by rw [Array.toList_replicate, cf_rep]; exact Nat.le_refl _) ⟨⟨fl, rest, fr', ch, ρ, he, hh, hk, fun i o hi _ ho => hf i none o hi ho, fun i ls hi => ?_, fun y hy => ?_, ?_⟩, by simp, fun i o hi => ?_⟩
  · have := hn _ hi; cases this
  · simp [Array.getD_eq_getD_getElem?, Array.getElem?_replicate]
    try (split <;> rfl)
  · refine ⟨hI'.rep, hI'.ext, hI'.vf.weaken (mask_len.trans hl) (fun t => ?_), hI'.df, mask_len.trans (hl.trans hI'.sz)⟩
    rw [mask_get]
    split
    · exact .inl rfl
    · rename_i hm
      rcases hg t with h | ⟨g, hg', hgt⟩
      · exact .inr h
      · exfalso
        refine hm (mskd_spec.2 ⟨g, floatsOf_mem.2 (by rw [he]; simp [hg']), ?_, hgt⟩)
        simp [Array.getD_eq_getD_getElem?, Array.getElem?_replicate]
        try (split <;> rfl)
  · exfalso
    simp [Array.getD_eq_getD_getElem?, Array.getElem?_replicate] at hi
    try (split at hi <;> simp at hi)
end Go.VC
end
section
namespace Go.VC
open Go
variable {P : Program} {G : Wd} {w0 w w' : World} {M : Nat → Prop} {ρ0 ρ ρ' : Env} {ch0 ch ch' : List Chunk} {c : Ctx} {N : Nat}
theorem opsK_ok (hC : CtxOk P G c) (hG : G.p w0 (Own ρ0 ch0)) {ops : Array Oper} {Q : Exit → Act → World → Prop} {K : KS} (hQ : ∀ a w, After N w0 M ρ0 ch0 K a w → Q .normal a w) : ∀ (l : List Oper) {fr : List AV} {ch : List Chunk} {ρ : Env} {a : Act} {w : World},
    Inv N w0 M ρ0 ch0 fr ch ρ a w → opsK c ops.toList l fr ch K → wpList P ops Q l a w := by
  intro l
  induction l with
  | nil => intro fr ch ρ a w hI h; exact hQ _ _ ⟨fr, ch, ρ, h, hI⟩
  | cons o l ih =>
    intro fr ch ρ a w hI h
    refine wpList_step (fun Kc hKc => ?_)
    exact opG_ok hC hG hI h (fun a w ⟨fr, ch, ρ, hk, hI'⟩ => hKc a w (ih hI' hk))
theorem exec_ok (hC : CtxOk P G c) (hG : G.p w0 (Own ρ0 ch0)) {n : Nat} (hn : n ≤ N) : ∀ (code : Code), drawsOk n c.ord code = true → ∀ {K : KX} {fr : List AV} {ch : List Chunk} {ρ : Env} {a : Act} {w : World}, Inv N w0 M ρ0 ch0 fr ch ρ a w → exec c ch0.length code fr ch K → code.wp P (QK N w0 M ρ0 ch0 K) a w := by
  intro code
  induction code with
  | skip => intro _ K fr ch ρ a w hI h; exact wp_skip ⟨fr, ch, ρ, h, hI⟩
  | region id ops draw =>
    intro hd K fr ch ρ a w hI h
    simp only [exec] at h
    cases draw with
    | false => exact wp_region_list (opsK_ok hC hG (fun a w h => h) _ hI h)
    | true =>
      simp only [drawsOk, Bool.and_eq_true, List.all_eq_true] at hd
      refine draw_ok hC hG hd.1 (fun a w h => h) (fun o ho d hod => ?_) hI h
      have := hd.2 o ho
      rw [hod] at this
      exact Nat.lt_of_lt_of_le (Nat.le_of_ble_eq_true this) hn
  | seq x y ihx ihy =>
    intro hd
    simp only [drawsOk, Bool.and_eq_true] at hd
    replace ihx := @ihx hd.1
    replace ihy := @ihy hd.2
    intro K fr ch ρ a w hI h
    simp only [exec] at h
    refine wp_seq (Code.wp_mono ?_ (ihx hI h))
    rintro e a w hq
    cases e with
    | normal => obtain ⟨fr, ch, ρ, hk, hI'⟩ := hq; exact ihy hI' hk
    | exit id => exact hq
    | ret => exact hq
    | goto l => exact hq
    | panic ch => exact hq
    | outgrown => exact hq
  | cond t x y ihx ihy =>
    intro hd
    simp only [drawsOk, Bool.and_eq_true] at hd
    replace ihx := @ihx hd.1
    replace ihy := @ihy hd.2
    intro K fr ch ρ a w hI h
    simp only [exec] at h
    split at h
    · rename_i b hb
      have hv := aeval_ok hI.vf t
      rw [hb] at hv
      have := rdB hv
      exact wp_cond_split this (fun ht => ihx hI (h.1 ht)) (fun ht => ihy hI (h.2 ht))
    · exact h.elim
  | block id x ih =>
    intro hd
    simp only [drawsOk] at hd
    replace ih := @ih hd
    intro K fr ch ρ a w hI h
    simp only [exec] at h
    refine wp_block (Code.wp_mono ?_ (ih hI h))
    rintro e a w hq
    cases e with
    | normal => exact hq
    | exit i =>
      simp only [Exit.inBlock]
      obtain ⟨fr, ch, ρ, hk, hI'⟩ := hq
      simp only at hk
      split at hk
      · rename_i hb
        have := Nat.eq_of_beq_eq_true hb
        rw [if_pos this]
        exact ⟨fr, ch, ρ, hk, hI'⟩
      · rename_i hb
        rw [if_neg (Nat.ne_of_beq_eq_false hb)]
        exact ⟨fr, ch, ρ, hk, hI'⟩
    | ret => exact hq
    | goto l => exact hq
    | panic ch => exact hq
    | outgrown => exact hq
  | loop x ih =>
    intro hd
    simp only [drawsOk] at hd
    replace ih := @ih hd
    intro K fr ch ρ a w hI h
    have hI0 := hI
    simp only [exec] at h
    obtain ⟨L, ι, st, ok, μ, ⟨i0, hi0, hn0⟩, hround⟩ := h
    have key : ∀ n i, μ i = n → ok i → ∀ (ρ : Env) (a : Act) (w : World), Inv N w0 M ρ0 ch0 (mkF fr.length L (st i).1) (st i).2 ρ a w →
        ∀ (b : Frame) (k : List Item) (cs : List Frame), ∃ e a' w', QK N w0 M ρ0 ch0 K e a' w' ∧ Arrives P (lone (b.at a (.code x :: .inLoop x :: k)) cs w) b k cs e a' w' := by
      intro n
      induction n using Nat.strongRecOn with
      | _ n ihn =>
        intro i hi hok ρ a w hI b k cs
        obtain ⟨e, a1, w1, hq, harr⟩ := ih hI (hround i hok) b (.inLoop x :: k) cs
        cases e with
        | normal =>
          obtain ⟨fr', ch', ρ', ⟨j, hj, hnj, hlt⟩, hI'⟩ := hq
          obtain ⟨ρ'', hI''⟩ := norm_ok hI' L hnj
          have hfl : fr'.length = fr.length := hI'.sz.trans hI0.sz.symm
          rw [hfl] at hI''
          obtain ⟨e2, a2, w2, hq2, harr2⟩ := ihn (μ j) (hi ▸ hlt) j rfl hj ρ'' a1 w1 hI'' b k cs
          exact ⟨e2, a2, w2, hq2, .of_steps (Steps.trans harr (.one step_inLoop)) harr2⟩
        | exit id => exact ⟨.exit id, a1, w1, hq, .pass (x := .inLoop x) rfl (fun _ _ => .inl (by simp)) harr⟩
        | ret => exact ⟨.ret, a1, w1, hq, .pass (x := .inLoop x) rfl (fun _ _ => .inl (by simp)) harr⟩
        | goto l => exact hq.elim
        | panic ch => exact hq.elim
        | outgrown => exact hq.elim
    obtain ⟨ρ', hI'⟩ := norm_ok hI L hn0
    intro b k cs
    obtain ⟨e, a', w', hq, harr⟩ := key _ i0 rfl hi0 ρ' a w hI' b k cs
    exact ⟨e, a', w', hq, .of_steps (.one step_loop) harr⟩
  | rangeFunc f ps as b _ _ => intro _ K fr ch ρ a w hI h; exact h.elim
  | exit id => intro _ K fr ch ρ a w hI h; exact wp_exit ⟨fr, ch, ρ, h, hI⟩
  | scope b _ => intro _ K fr ch ρ a w hI h; exact h.elim
  | label l => intro _ K fr ch ρ a w hI h; exact h.elim
  | goto l => intro _ K fr ch ρ a w hI h; exact h.elim
  | ret => intro _ K fr ch ρ a w hI h; exact wp_ret ⟨fr, ch, ρ, h, hI⟩
  | refuse s => intro _ K fr ch ρ a w hI h; exact h.elim
end Go.VC
end
section
namespace Go.VC
open Go
variable {P : Program} {G : Wd} {w0 w w' : World} {M : Nat → Prop} {ρ0 ρ ρ' : Env} {ch0 ch ch' : List Chunk} {c : Ctx} {N : Nat}
def resAV (c : Ctx) (fr : List AV) (ch : List Chunk) : ResultVar → Option AV
  | .tmp t => some (fr.getD t .u)
  | .cell t ty => match c.tt ty with
    | some ti => match aload ch ti (fr.getD t .u) with
      | some r => some r.val
      | none => none
    | none => none
def resAVs (c : Ctx) (fr : List AV) (ch : List Chunk) : List ResultVar → Option (List AV)
  | [] => some []
  | r :: rs => match resAV c fr ch r with
    | some x => match resAVs c fr ch rs with
      | some xs => some (x :: xs)
      | none => none
    | none => none
def tupAV : List AV → AV
  | [x] => x
  | xs => .t xs
def refsR : AV → List Nat
  | .t xs => xs.flatMap refsAV
  | x => refsAV x
def nrmR (order : List Nat) : AV → AV
  | .t xs => .t (xs.map (nrmAV order))
  | x => nrmAV order x
def retK (c : Ctx) (m : Nat) (plain : Bool) (rs : List ResultVar) (K : AV → List Chunk → Prop) (fr : List AV) (ch : List Chunk) : Prop :=
  match resAVs c fr ch rs with
  | some xs =>
    let order := closeAll ch (4 * ch.length + 8) (refsR (tupAV xs)) (List.range m)
    K (nrmR order (tupAV xs)) (order.map fun c => nrmCh order (ch.getD c .dead)) ∧
      match plain with
      | true => PlainAV (nrmR order (tupAV xs)) ∧ ∀ k ∈ (order.map fun c => nrmCh order (ch.getD c .dead)), PlainCh k
      | false => True
  | none => False
def fnK (c : Ctx) (m : Nat) (plain : Bool) (rs : List ResultVar) (K : AV → List Chunk → Prop) : KX := fun x fr ch => match x with
  | .n => retK c m plain rs K fr ch
  | .r => retK c m plain rs K fr ch
  | .e _ => False
def resSem (tmps : Array Value) : ResultVar → Sem Value
  | .tmp t => pure (tmps.getD t undef)
  | .cell a t => do loadVar t (← asAddr (tmps.getD a undef))
theorem results_eq (fn : Func) (tmps : Array Value) : results fn tmps = (do
    let vs ← fn.results.mapM (resSem tmps)
    pure (if h : vs.size = 1 then vs[0] else .tuple vs)) := by
  unfold results
  congr 2
theorem resAV_ok (hC : CtxOk P G c) (hR : Rep w0 M ρ ch w) {fr : List AV} {tmps : Array Value} (hF : VF w ρ ch fr tmps) {r : ResultVar} {x : AV} (h : resAV c fr ch r = some x) :
    ∃ v, (resSem tmps r).run P w = .ok v w ∧ VAV w ρ ch x v := by
  cases r with
  | tmp t =>
    simp only [resAV] at h; cases h
    exact ⟨_, by simp [resSem], getD_ok hF t⟩
  | cell t ty =>
    simp only [resAV] at h
    split at h
    · rename_i ti ht
      split at h
      · rename_i r hr
        cases h
        obtain ⟨_, _, _, v, hrun, hva⟩ := aload_pure hR (hC.tt _ _ ht) hr (getD_ok hF t)
        refine ⟨v, ?_, hva⟩
        simp only [resSem]
        generalize tmps.getD t undef = u at hrun
        cases u with
        | pointer a =>
          cases a with
          | some a => simpa [Instr.loadAt, Instr.sureAddr, asAddr] using hrun
          | none => simp [Instr.loadAt, Instr.sureAddr, stuck, Sem.run] at hrun
        | _ => simp [Instr.loadAt, Instr.sureAddr, stuck, Sem.run] at hrun
      · cases h
    · cases h
theorem resAVs_ok (hC : CtxOk P G c) (hR : Rep w0 M ρ ch w) {fr : List AV} {tmps : Array Value} (hF : VF w ρ ch fr tmps) : ∀ (rs : List ResultVar) {xs : List AV}, resAVs c fr ch rs = some xs →
    ∃ vs : List Value, (rs.mapM (resSem tmps)).run P w = .ok vs w ∧ vs.length = xs.length ∧
      ∀ (j : Nat) (x : AV), xs[j]? = some x → ∃ v, vs[j]? = some v ∧ VAV w ρ ch x v := by
  intro rs
  induction rs with
  | nil => intro xs h; cases h; exact ⟨[], by simp, rfl, by simp⟩
  | cons r rs ih =>
    intro xs h
    simp only [resAVs] at h
    split at h
    · rename_i x hx
      split at h
      · rename_i xs' hxs
        cases h
        obtain ⟨v, hv, hva⟩ := resAV_ok hC hR hF hx
        obtain ⟨vs, hvs, hl, hj⟩ := ih hxs
        refine ⟨v :: vs, ?_, by simp [hl], fun j y hy => ?_⟩
        · rw [List.mapM_cons]
          simp only [Sem.run_bind, hvs, Result.andThen_ok, hv]
          rfl
        · cases j with
          | zero => simp at hy; subst hy; exact ⟨v, rfl, hva⟩
          | succ j => simpa using hj j y (by simpa using hy)
      · cases h
    · cases h
theorem nrmR_ok {order : List Nat} {x : AV} {v : Value} (hv : VAV w ρ ch x v) : VAV w (nrmE ρ order) (nrmChs ch order) (nrmR order x) v := by
  cases x with
  | s a => exact nrmAV_ok hv
  | g as => exact nrmAV_ok hv
  | u => trivial
  | t xs =>
    obtain ⟨vs, rfl, hs, hj⟩ := hv
    refine ⟨vs, rfl, by simpa using hs, fun j a ha => ?_⟩
    rw [List.getElem?_map] at ha
    cases hq : xs[j]? with
    | none => simp [hq] at ha
    | some x0 =>
      simp [hq] at ha; subst ha
      obtain ⟨y, hy, hva⟩ := hj j x0 hq
      refine ⟨y, hy, ?_⟩
      cases x0 with
      | s a => exact nrmA_ok hva
      | g as => exact nrmAV_ok (x := .g as) hva
      | t ys => trivial
      | u => trivial
theorem ret_ok (hC : CtxOk P G c) {fr : List AV} {a : Act} (hI : Inv N w0 M ρ0 ch0 fr ch ρ a w) (hM : M = OwnC ρ0 ch0) {fn : Func} {C : Contract} {K : AV → List Chunk → Prop} (h : retK c ch0.length C.plain fn.results.toList K fr ch) :
    a.defers = [] ∧ ∃ v, (results fn a.tmps).run P w = .ok v w ∧ Post w0 ρ0 ch0 C.plain K (.returned v) w := by
  refine ⟨hI.df, ?_⟩
  unfold retK at h
  split at h
  · rename_i xs hxs
    obtain ⟨vs, hvs, hl, hj⟩ := resAVs_ok hC hI.rep hI.vf _ hxs
    generalize ho : closeAll ch (4 * ch.length + 8) (refsR (tupAV xs)) (List.range ch0.length) = order at h
    obtain ⟨hnd, ex, hex⟩ := closeAll_ext ch (4 * ch.length + 8) (refsR (tupAV xs)) (List.range ch0.length) List.nodup_range
    rw [ho] at hnd hex
    have hp : ∀ i, i < ch0.length → order[i]? = some i := by
      intro i hi
      rw [hex, List.getElem?_append_left (by simpa using hi)]; simp [hi]
    have hval : ∃ v, (results fn a.tmps).run P w = .ok v w ∧ VAV w ρ ch (tupAV xs) v := by
      have hm : (fn.results.mapM (resSem a.tmps)).run P w = .ok vs.toArray w := by
        rw [Array.mapM_eq_mapM_toList]
        simp only [Sem.run_map, hvs, Result.andThen_ok]
      rw [results_eq, Sem.run_bind]
      match xs, vs, hl, hj with
      | [], [], _, _ => exact ⟨.tuple #[], by rw [hm]; simp, #[], rfl, rfl, by simp⟩
      | [x], [v], _, hj =>
        obtain ⟨v', h1, h2⟩ := hj 0 x rfl
        simp at h1; subst h1
        exact ⟨v, by rw [hm]; simp, h2⟩
      | x :: y :: xs, v :: u :: vs, hl, hj =>
        refine ⟨.tuple (v :: u :: vs).toArray, by rw [hm]; simp, (v :: u :: vs).toArray, rfl, by simpa using hl, fun j z hz => ?_⟩
        obtain ⟨q, h1, h2⟩ := hj j z hz
        refine ⟨q, by simpa using h1, ?_⟩
        cases z with
        | s a => exact h2
        | g as => exact h2
        | t ys => trivial
        | u => trivial
    obtain ⟨v, hv, hva⟩ := hval
    subst hM
    refine ⟨v, hv, v, _, nrmE ρ order, nrmChs ch order, rfl, h.1, nrm_rep hnd hI.rep, nrmR_ok hva, nrm_ext hI.ext hp, fun hpl => ?_⟩
    have := h.2
    rw [hpl] at this
    exact this
  · exact h.elim
def fr0 (args : List AV) (n : Nat) : List AV := args ++ List.replicate (n - args.length) .u
theorem fn_ok (hC : CtxOk P G c) {f : FuncId} {fn : Func} {code : Code} (hf : P.funcs[f]? = some fn) (hb : fn.body = some code) (he : ∀ (args : Array Value) (w : World), (callFunc f args).run P w = .ok (.enter f args) w) {C : Contract}
    (hd : drawsOk fn.ntmps c.ord code = true) (h : ∀ args ch K, C.spec args ch K → exec c ch.length code (fr0 args fn.ntmps) ch (fnK c ch.length C.plain fn.results.toList K)) : Ok P G f C := by
  refine ⟨he, fun w ρ ch args vals K hR hG ha hs => ?_⟩
  refine calls_of_wp hf hb ?_
  have hI : Inv (fr0 args fn.ntmps).length w (OwnC ρ ch) ρ ch (fr0 args fn.ntmps) ch ρ { tmps := vals ++ Array.replicate (fn.ntmps - vals.size) undef, defers := [] } w := by
    refine ⟨hR, Ext.refl _ _ _, ⟨by simp [fr0, ha.1], fun t av ht => ?_⟩, rfl, rfl⟩
    rcases Nat.lt_or_ge t args.length with hl | hl
    · rw [fr0, List.getElem?_append_left hl] at ht
      obtain ⟨v, hv, hva⟩ := ha.2 t av ht
      rw [Array.getD_eq_getD_getElem?, Array.getElem?_append_left (by have := ha.1; omega), hv]
      exact hva
    · rw [fr0, List.getElem?_append_right hl, List.getElem?_replicate] at ht
      split at ht
      · cases ht; trivial
      · cases ht
  refine Code.wp_mono ?_ (exec_ok hC hG (n := fn.ntmps) (by simp [fr0]; omega) code hd hI (h args ch K hs))
  rintro e a w' hq
  cases e with
  | normal => obtain ⟨fr, ch', ρ', hk, hI'⟩ := hq; exact ret_ok hC hI' rfl hk
  | ret => obtain ⟨fr, ch', ρ', hk, hI'⟩ := hq; exact ret_ok hC hI' rfl hk
  | exit id => obtain ⟨fr, ch', ρ', hk, hI'⟩ := hq; exact hk.elim
  | goto l => exact hq.elim
  | panic l => exact hq.elim
  | outgrown => exact hq.elim
end Go.VC
end
section
namespace Go.VC
open Go
variable {P : Program}
def eqPlain : Value → Value → Bool
  | .bool a, .bool b => a == b
  | .int k n, .int k' n' => decide (k = k') && decide (n = n')
  | .string a, .string b => decide (a.data.toList = b.data.toList)
  | .nilFunc, .nilFunc => true
  | .nilIface, .nilIface => true
  | .pointer none, .pointer none => true
  | _, _ => false
theorem eqPlain_ok {x y : Value} (h : eqPlain x y = true) : x = y ∧ plain y = true := by
  unfold eqPlain at h
  split at h <;> simp_all [plain]
  case h_3 a b =>
    cases a; cases b
    simp_all
def descChk (d : TypeDesc) : Value → Bool
  | .int k _ => match d with | .int k' => decide (k = k') | _ => false
  | .string _ => match d with | .string => true | _ => false
  | .bool _ => match d with | .bool => true | _ => false
  | _ => true
theorem descChk_ok {d : TypeDesc} {x : Value} (h : descChk d x = true) : descOf d x := by
  unfold descChk at h
  split at h
  · split at h
    · simp at h; subst h; rfl
    · cases h
  · split at h
    · rfl
    · cases h
  · split at h
    · rfl
    · cases h
  · unfold descOf; split <;> simp_all
def zChk : D → Value → Bool
  | .v x, z => eqPlain z x
  | .sl (some true) _ [], .slice none 0 0 => true
  | _, _ => false
theorem zChk_ok {d : D} {z : Value} (h : zChk d z = true) : (d = .v z ∧ plain z = true) ∨ (∃ w, d = .sl (some true) w [] ∧ z = .slice none 0 0) := by
  unfold zChk at h
  split at h
  · obtain ⟨rfl, h2⟩ := eqPlain_ok h; exact .inl ⟨rfl, h2⟩
  · exact .inr ⟨_, rfl, rfl⟩
  · cases h
def zsChk : List D → List Value → Bool
  | [], [] => true
  | d :: ds, v :: vs => zChk d v && zsChk ds vs
  | _, _ => false
theorem zsChk_ok : ∀ {ds : List D} {vs : List Value}, zsChk ds vs = true → vs.length = ds.length ∧ ∀ (j : Nat) (d : D), ds[j]? = some d → ∃ x, vs[j]? = some x ∧ zChk d x = true := by
  intro ds
  induction ds with
  | nil => intro vs h; cases vs with | nil => exact ⟨rfl, by simp⟩ | cons v vs => simp [zsChk] at h
  | cons d ds ih =>
    intro vs h
    cases vs with
    | nil => simp [zsChk] at h
    | cons v vs =>
      simp [zsChk] at h
      obtain ⟨h1, h2⟩ := ih h.2
      refine ⟨by simp [h1], fun j d' hj => ?_⟩
      cases j with
      | zero => simp at hj; subst hj; exact ⟨v, rfl, h.1⟩
      | succ j => simpa using h2 j d' (by simpa using hj)
theorem zrel_of {zs : List D} {cells : Array Value} (h : zsChk zs cells.toList = true) : ZRel zs cells := by
  obtain ⟨h1, h2⟩ := zsChk_ok h
  refine ⟨by simpa using h1, fun j d hd => ?_⟩
  obtain ⟨x, hx, hz⟩ := h2 j d hd
  refine ⟨x, by simpa using hx, ?_⟩
  rcases zChk_ok hz with ⟨rfl, hp⟩ | ⟨w, rfl, rfl⟩
  · exact .inl ⟨rfl, hp⟩
  · exact .inr ⟨w, rfl, rfl⟩
def isAggAt (P : Program) (t : TypeId) : Option Bool := (P.underlying t).map aggDesc
def fieldChk (P : Program) (n : Nat) : List (Nat × Nat × Bool) → List Field → Bool
  | [], [] => true
  | (o, s, b) :: fs, f :: gs => decide (f.offset = o) && (match P.info? f.type with | some i => decide (i.size = s) | none => false) && decide (s ≠ 0) && (match P.underlying f.type with | some d => aggDesc d == b | none => false) && decide (o + s ≤ n) && fieldChk P n fs gs
  | _, _ => false
theorem fieldChk_ok {n : Nat} : ∀ {fs : List (Nat × Nat × Bool)} {gs : List Field}, fieldChk P n fs gs = true → gs.length = fs.length ∧ ∀ (j o s : Nat) (b : Bool), fs[j]? = some (o, s, b) →
    ∃ f fi d, gs[j]? = some f ∧ f.offset = o ∧ P.info? f.type = some fi ∧ fi.size = s ∧ s ≠ 0 ∧ P.underlying f.type = some d ∧ aggDesc d = b ∧ o + s ≤ n := by
  intro fs
  induction fs with
  | nil => intro gs h; cases gs with | nil => exact ⟨rfl, by simp⟩ | cons g gs => simp [fieldChk] at h
  | cons f fs ih =>
    obtain ⟨o, s, b⟩ := f
    intro gs h
    cases gs with
    | nil => simp [fieldChk] at h
    | cons g gs =>
      simp only [fieldChk, Bool.and_eq_true, decide_eq_true_eq] at h
      obtain ⟨⟨⟨⟨⟨h1, h2⟩, h3⟩, h4⟩, h5⟩, h6⟩ := h
      obtain ⟨g1, g2⟩ := ih h6
      refine ⟨by simp [g1], fun j o' s' b' hj => ?_⟩
      cases j with
      | zero =>
        simp at hj
        obtain ⟨rfl, rfl, rfl⟩ := hj
        cases hi : P.info? g.type with
        | none => simp [hi] at h2
        | some i =>
          cases hd : P.underlying g.type with
          | none => simp [hd] at h4
          | some d => exact ⟨g, i, d, rfl, h1, hi, by simpa [hi] using h2, h3, hd, by simpa [hd] using h4, h5⟩
      | succ j => simpa using g2 j o' s' b' (by simpa using hj)
def tiChk (P : Program) (t : TypeId) : TI → Bool
  | .one z => match z, P.info? t, P.underlying t with
    | .v x, some i, some d => decide (i.size = 1) && (match i.zero with | some y => eqPlain y x | none => false) && (aggDesc d == false) && descChk d x
    | _, _, _ => false
  | .sl wd by_ ag zs => match P.info? t, P.underlying t with
    | some i, some (.slice e) => decide (i.size = 1) && (match i.zero with | some (.slice none 0 0) => true | _ => false) && (match P.info? e, P.underlying e with
      | some ie, some d => decide (ie.size = wd) && decide (ie.bytes = by_) && (match ie.zero with | some z => zsChk zs z.cells.toList | none => false) && decide (zs.length = wd) && (aggDesc d == ag) && (match zs with | [.v x] => descChk d x | _ => true)
      | _, _ => false)
    | _, _ => false
  | .st fs zs => match P.info? t, P.underlying t with
    | some i, some (.struct fields) => decide (i.size = zs.length) && (match i.zero with | some (.agg z) => zsChk zs z.toList | _ => false) && fieldChk P zs.length fs fields.toList
    | _, _ => false
theorem tiChk_ok {t : TypeId} {ti : TI} (h : tiChk P t ti = true) : TIok P t ti := by
  cases ti with
  | one z =>
    simp only [tiChk] at h
    split at h
    · rename_i x i d hi hd
      simp only [Bool.and_eq_true, decide_eq_true_eq, beq_iff_eq] at h
      obtain ⟨⟨⟨h1, h2⟩, h3⟩, h4⟩ := h
      split at h2
      · rename_i y hy
        obtain ⟨rfl, hp⟩ := eqPlain_ok h2
        exact ⟨i, y, d, hi, h1, hy, rfl, hp, hd, h3, descChk_ok h4⟩
      · cases h2
    · cases h
  | sl wd by_ ag zs =>
    simp only [tiChk] at h
    split at h
    · rename_i i e hi hd
      simp only [Bool.and_eq_true, decide_eq_true_eq] at h
      obtain ⟨⟨h1, h2⟩, h3⟩ := h
      split at h2
      · rename_i hz
        split at h3
        · rename_i ie d hie hde
          simp only [Bool.and_eq_true, decide_eq_true_eq, beq_iff_eq] at h3
          obtain ⟨⟨⟨⟨⟨g1, g2⟩, g3⟩, g4⟩, g5⟩, g6⟩ := h3
          split at g3
          · rename_i z hz'
            refine ⟨i, e, ie, z, d, hi, h1, hz, hd, hie, g1, g2, hz', zrel_of g3, g4, hde, g5, fun x hx => ?_⟩
            subst hx
            exact descChk_ok g6
          · cases g3
        · cases h3
      · cases h2
    · cases h
  | st fs zs =>
    simp only [tiChk] at h
    split at h
    · rename_i i fields hi hd
      simp only [Bool.and_eq_true, decide_eq_true_eq] at h
      obtain ⟨⟨h1, h2⟩, h3⟩ := h
      split at h2
      · rename_i z hz
        obtain ⟨g1, g2⟩ := fieldChk_ok h3
        refine ⟨i, fields, z, hi, h1, hz, zrel_of h2, hd, by simpa using g1, fun j o s b hj => ?_⟩
        obtain ⟨f, fi, d, k1, k2⟩ := g2 j o s b hj
        exact ⟨f, fi, d, by simpa using k1, k2⟩
      · cases h2
    · cases h
def tabTT (l : List (Nat × TI)) (t : TypeId) : Option TI := match l with
  | [] => none
  | (u, ti) :: l => match Nat.beq u t with
    | true => some ti
    | false => tabTT l t
theorem tab_ok : ∀ {l : List (Nat × TI)}, (l.all fun p => tiChk P p.1 p.2) = true → TOk P (tabTT l) := by
  intro l
  induction l with
  | nil => intro _ t ti h; simp [tabTT] at h
  | cons p l ih =>
    obtain ⟨u, ti⟩ := p
    intro h t ti' ht
    simp only [List.all_cons, Bool.and_eq_true] at h
    simp only [tabTT] at ht
    split at ht
    · rename_i hb
      cases ht
      rw [← Nat.eq_of_beq_eq_true hb]; exact tiChk_ok h.1
    · exact ih h.2 t ti' ht
end Go.VC
end
