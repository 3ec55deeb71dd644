/- The verified condition generator: definitions and lemmas about the model; no program in sight. Conditions: none beyond what each theorem states. -/
import Derived.Test.YtagnaoagicgmeaaDoorVc1
set_option linter.all false
section
namespace Go.VC
open Go Go.RowKit
variable {P : Program} {G : Wd} {w0 w w' : World} {M : Nat → Prop} {ρ : Env} {ch : List Chunk}
theorem below_rep (hR : Rep w0 M ρ ch w) (hb : Below w.heap.size w w') : Rep w0 M ρ ch w' ∧ Ext w ρ ch w' ρ ch := by
  have hE : Ext w ρ ch w' ρ ch := by
    refine ⟨fun b hlt h => ⟨hb.block b hlt, h⟩, fun _ _ => rfl, rfl, fun i k hk => ⟨k, hk, ?_⟩⟩
    cases k <;> simp [Turns]
    intro b cur t x y _ h
    exact ⟨cur, ⟨t, x, y, by rw [hb.block b (Array.getElem?_eq_some_iff.1 h).1]; exact h⟩, rfl⟩
  refine ⟨⟨⟨hb.os.trans hR.wok.os, hb.tape.trans hR.wok.tape, hb.output.trans hR.wok.output, Nat.le_trans hR.wok.size hb.size, fun b hlt hm => (hb.block b (Nat.lt_of_lt_of_le hlt hR.wok.size)).trans (hR.wok.block b hlt hm)⟩,
    fun i k hk => ChunkRep.ext hE (fun ho b hr => hb.block b ?_) (hR.chunk i k hk), hR.inj, hR.new, hR.far⟩, hE⟩
  exact hR.lt ⟨i, k, hk, ho, hr⟩
theorem lib_ok {f : FuncId} {C : Contract} (he : ∀ (args : Array Value) (w : World), (callFunc f args).run P w = .ok (.enter f args) w)
    (h : ∀ (w : World) (ρ : Env) (ch : List Chunk) (args : List AV) (vals : Array Value) (K : AV → List Chunk → Prop), Rep w (OwnC ρ ch) ρ ch w → G.p w (Own ρ ch) → VArgs w ρ ch args vals → C.spec args ch K →
      ∃ v av, Calls P f vals w (fun e w' => e = .returned v ∧ Below w.heap.size w w') ∧ K av ch ∧ (∀ w', Below w.heap.size w w' → VAV w' ρ ch av v) ∧ (C.plain = true → PlainAV av ∧ ∀ k ∈ ch, PlainCh k)) : Ok P G f C := by
  refine ⟨he, fun w ρ ch args vals K hR hG ha hs => ?_⟩
  obtain ⟨v, av, hc, hk, hv, hp⟩ := h w ρ ch args vals K hR hG ha hs
  refine hc.mono ?_
  rintro e w' ⟨rfl, hb⟩
  obtain ⟨hR', hE⟩ := below_rep hR hb
  exact ⟨v, av, ρ, ch, rfl, hk, hR', hv w' hb, hE, hp⟩
theorem VArgs.one {a : AV} {vals : Array Value} (h : VArgs w ρ ch [a] vals) : ∃ v, vals = #[v] ∧ VAV w ρ ch a v := by
  obtain ⟨h1, h2⟩ := h
  obtain ⟨v, hv, ha⟩ := h2 0 a rfl
  refine ⟨v, ?_, ha⟩
  apply Array.ext'
  have : vals.toList.length = 1 := by simpa using h1
  match hl : vals.toList, this with
  | [x], _ =>
    have : vals.toList[0]? = some v := by simpa using hv
    rw [hl] at this; simp at this; subst this; rfl
theorem VArgs.two {a b : AV} {vals : Array Value} (h : VArgs w ρ ch [a, b] vals) : ∃ v u, vals = #[v, u] ∧ VAV w ρ ch a v ∧ VAV w ρ ch b u := by
  obtain ⟨h1, h2⟩ := h
  obtain ⟨v, hv, ha⟩ := h2 0 a rfl
  obtain ⟨u, hu, hb⟩ := h2 1 b rfl
  refine ⟨v, u, ?_, ha, hb⟩
  apply Array.ext'
  have : vals.toList.length = 2 := by simpa using h1
  match hl : vals.toList, this with
  | [x, y], _ =>
    have h0 : vals.toList[0]? = some v := by simpa using hv
    have h1 : vals.toList[1]? = some u := by simpa using hu
    rw [hl] at h0 h1; simp at h0 h1; subst h0 h1; rfl
end Go.VC
end
