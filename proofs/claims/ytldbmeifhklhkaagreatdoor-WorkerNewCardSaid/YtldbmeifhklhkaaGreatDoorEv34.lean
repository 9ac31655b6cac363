/-
  A verified evaluator, part 34: what an evaluation says of a law.
-/
import Derived.Test.YtldbmeifhklhkaaGreatDoorEv33
import Derived.ChangeFn
namespace Go.Ev
noncomputable section
open Go

def okTrue (r : Res) : Bool :=
  match r with
  | .ok (.bool true) _ _ => true
  | _ => false
theorem okTrue_some {r : Res} (h : okTrue r = true) : ∃ H n, r = .ok (.bool true) H n := by
  cases r with
  | bad => cases h
  | ok v H n =>
    cases v <;> try (cases h; done)
    rename_i b
    cases b with
    | false => cases h
    | true => exact ⟨H, n, rfl⟩
/-- no block is named -/
def Emb.none (σ : Nat → Int) : Emb := ⟨fun _ => Option.none, fun _ => 0, σ⟩
section
variable {P : Program} {Γ : Glo} {cal : Cal} {rounds : Nat} {w : World}
theorem HOK.nil (σ : Nat → Int) : HOK P (Emb.none σ) .nil w :=
  ⟨fun p o h => (by rw [Tr.get_nil] at h; cases h), fun p q b s s' h => (by obtain ⟨o, h1, _⟩ := h; rw [Tr.get_nil] at h1; cases h1), fun p b s h => (by cases h)⟩
theorem GOK.nil (σ : Nat → Int) : GOK (fun _ => []) (Emb.none σ) .nil w :=
  ⟨fun g i v h => (by cases h), fun g h => absurd rfl h⟩

/-- a call of the function L without arguments, which answers true, taken as done -/
def liveCal (L : Nat) (c : Cal) : Cal :=
  ⟨fun f args H n => match Nat.beq f L with
    | true => (match args with | [] => .ok (.bool true) H n | _ :: _ => .bad)
    | false => c.fn f args H n, c.rd⟩
theorem liveCal_ok {L : Nat} (k : CalOK P (fun _ => []) cal) (h : okTrue (cal.fn L [] .nil .e) = true) : CalOK P (fun _ => []) (liveCal L cal) := by
  refine ⟨fun f args H n v H' n' he => ?_, k.rd⟩
  have he' : (match Nat.beq f L with
    | true => (match args with | [] => Res.ok (.bool true) H n | _ :: _ => .bad)
    | false => cal.fn f args H n) = .ok v H' n' := he
  cases hf : Nat.beq f L with
  | false => simp only [hf] at he'; exact k.fn _ _ _ _ _ _ _ he'
  | true =>
    have := beq_eq hf
    subst this
    simp only [hf] at he'
    cases args with
    | cons => cases he'
    | nil =>
      cases he'
      obtain ⟨Hz, nz, hz⟩ := okTrue_some h
      obtain ⟨_, hcall, hk⟩ := k.fn _ _ _ _ _ _ _ hz
      refine ⟨Mono.refl _, hcall, fun ι w xs hok gok hfr hxs => ?_⟩
      refine (hk (Emb.none ι.sym) w xs (HOK.nil _) (GOK.nil _) (Fr.nil_of fun _ => rfl) (by rw [rels_nil_inv hxs]; exact rels_nil)).mono fun e w' he => ?_
      obtain ⟨x, rfl, ι', hv, hs⟩ := he
      simp only [V.rel] at hv
      subst hv
      have hkept : ∀ b, b < w.heap.size → w'.heap[b]? = w.heap[b]? := fun b hb => hs.kept b hb fun p s hl => by
        obtain ⟨o, h1, _⟩ := hl
        rw [Tr.get_nil] at h1; cases h1
      refine ⟨_, rfl, ι, by simp only [V.rel], ⟨Emb.le.refl _, fun _ h1 h2 => absurd h1 h2, ⟨fun p o hp => O.ok_mono (hok.obj p o hp) (Emb.le.refl _) fun b s _ hp' => hkept b (hok.lt p b s hp'), hok.inj, fun p b s hp => Nat.lt_of_lt_of_le (hok.lt p b s hp) hs.size⟩,
        fun b hb _ => hkept b hb, hs.size, fun p b s hl hp _ => ⟨p, s, hl, hp⟩, hs.tape, hs.os, hs.out⟩⟩
/-- a law's call -/
theorem law_ok (k : CalOK P (fun _ => []) cal) (hmix : P.follows .mixedOrders = true) (hname : ∀ (f : Nat) (fn : Func), P.funcs[f]? = some fn → (fn.name == "runtime.NumGoroutine") = false)
    {f : Nat} {args : List V} (h : okTrue (evFun cal (fun _ => []) rounds (funIR P f) args .nil .e) = true) (σ : Nat → Int) (w : World) (xs : Array Value) (hxs : V.rels (Emb.none σ) args xs.toList) :
    Calls P f xs w fun e w' => e = .returned (.bool true) ∧ w.keptBut w' (fun _ => False) := by
  obtain ⟨Hz, nz, hz⟩ := okTrue_some h
  obtain ⟨_, _, hk⟩ := fn_ok k hmix hname hz
  refine (hk (Emb.none σ) w xs (HOK.nil _) (GOK.nil _) (Fr.nil_of fun _ => rfl) hxs).mono fun e w' he => ?_
  obtain ⟨x, rfl, ι', hv, hs⟩ := he
  simp only [V.rel] at hv
  subst hv
  refine ⟨rfl, World.keptBut_none_iff.2 ⟨hs.os, hs.out, fun b hb => hs.kept b hb fun p s hl => ?_⟩⟩
  obtain ⟨o, h1, _⟩ := hl
  rw [Tr.get_nil] at h1; cases h1
end
end
end Go.Ev
