/-
  The filter as start leaves it at the two rules, run by the kernel.
-/
import Derived.Test.YtahmcjdddcbhnaaGreatDoorRulZW
import Derived.Test.YtahmcjdddcbhnaaGreatDoorRunG2a
import Derived.Test.YtahmcjdddcbhnaaGreatDoorRunG0c
import Derived.Test.YtahmcjdddcbhnaaGreatDoorRunG0b
namespace Go.Proofs.YtahmcjdddcbhnaaGreatDoor
open Go Go.Ev Go.RowKit Go.Imap

/-- the block of a name -/
def bk (ι : Emb) (p : Pth) : Nat := ((ι p).map (·.1)).getD 0
section
variable {w w' : World} {A A2 : List (Pth × O)} {σ τ : Nat → Int} {ι : Emb}
theorem Lies.bkc (h : Lies w A σ ι) {p : Pth} {l : List V} (hp : (Ev.hp A).get p = some (.cells l)) : ι p = some (bk ι p, 0) := by
  obtain ⟨b, s, c, el, fr, q1, q2, q3, q4, q5, q6⟩ := h.hok.obj _ _ hp
  subst q6
  unfold bk
  rw [q1]
  rfl
theorem Lies.bkm (h : Lies w A σ ι) {p : Pth} {es : List (V × V × Nat)} {k : Nat} (hp : (Ev.hp A).get p = some (.map es k)) : ι p = some (bk ι p, 0) := by
  obtain ⟨b, es', q1, q2, q3⟩ := h.hok.obj _ _ hp
  unfold bk
  rw [q1]
  rfl
theorem Lies.celx (h : Lies w A σ ι) {p : Pth} {l : List V} (hp : (Ev.hp A).get p = some (.cells l)) : ∃ cs : Array Value, V.rels ι l cs.toList ∧ Cel w (bk ι p) cs := by
  have hb := h.bkc hp
  obtain ⟨b, s, c, el, fr, q1, q2, q3, q4, q5, q6⟩ := h.hok.obj _ _ hp
  rw [hb] at q1
  cases q1
  rw [List.drop_zero] at q4
  refine ⟨(c.toList.take l.length).toArray, by simpa using q4, c, el, fr, q2, q3, by rw [List.size_toArray, List.length_take]; simp; omega, fun i hi => ?_⟩
  have hi' : i < l.length := by simp at hi; omega
  simp [hi']
theorem Lies.bk_ne (h : Lies w A σ ι) {p q : Pth} {o o' : O} (hp : (Ev.hp A).get p = some o) (hq : (Ev.hp A).get q = some o') (ho : o ≠ .dead) (ho' : o' ≠ .dead) (hip : ι p = some (bk ι p, 0)) (hiq : ι q = some (bk ι q, 0)) (hne : p ≠ q) : bk ι p ≠ bk ι q := fun e =>
  hne (h.hok.inj p q (bk ι p) 0 0 ⟨o, hp, ho⟩ ⟨o', hq, ho'⟩ hip (by rw [e]; exact hiq))
theorem Lies.part (h : Lies w A σ ι) {asg : Asg} {spec : Ev.Spec} {ns : List Nat} (hfit : fitF asg spec (idl ns) A2 (hp A) = true) (hn : Num asg spec σ τ) (hnm : ∀ p ∈ names A2, ∃ i ∈ ns, p = nm i) : ∃ ι2, Lies w A2 τ ι2 ∧ (∀ p ∈ names A2, ι2 p = ι p) ∧ ∀ b, foot ι2 A2 b → ∃ p ∈ names A2, ∃ t, ι p = some (b, t) := by
  obtain ⟨ι2, h1, -, h3⟩ := h.fit hfit hn
  have hid : ∀ p ∈ names A2, ι2 p = ι p := fun p hp => by
    obtain ⟨i, hi, rfl⟩ := hnm p hp
    exact h3 (nm i, nm i) (List.mem_map.2 ⟨i, hi, rfl⟩)
  refine ⟨ι2, h1, hid, fun b hb => ?_⟩
  obtain ⟨p, t, -, hp⟩ := hb
  have hm := h1.dom p (by rw [hp]; simp)
  exact ⟨p, hm, t, by rw [← hid p hm]; exact hp⟩
end
/-- the blocks of a filter with one version and one connection -/
structure Ctl (w : World) (g cm cb vb mb ub ab : Nat) (tk us : Int) (wl W : Value) : Prop where
  fil : ∃ m1, Cel w g #[.int .i64 1048576, .int .i64 10, .int .i64 tk, .int .i64 0, m1, .map (some cm)]
  cmap : IMap w cm fun u => if u = 1 then some (.pointer (some ⟨cb, 0, none⟩)) else none
  con : ∃ ac, Cel w cb #[.int .i64 0, .pointer (some ⟨vb, 0, none⟩), wl, .slice (some ⟨ab, 0, none⟩) 1 ac]
  ver : ∃ rv, Cel w vb #[.pointer (some ⟨mb, 0, none⟩), rv]
  met : MtC w mb ub 1048576 10 tk us
  wat : Cel w ab #[W]
  dis : [g, cm, cb, vb, mb, ub, ab].Nodup
noncomputable section
def filA : List V := [J 1048576, J 10, J 0, J 0, .unk, .mp (nm 42)]
def mapA : O := .map [(J 1, .ptr (nm 44) 0, 0)] 1
def verA : List V := [.ptr (nm 45) 0, .unk]
def conA : List V := [J 0, .ptr (nm 43) 0, .nilsl, .sl (nm 47) 0 1 1 1]
def metA : List V := [J 1048576, J 10, J 0, .sl (nm 46) 0 1 1 0]
def ctlA (W : V) : List (Pth × O) := [(nm 40, .cells filA), (nm 42, mapA), (nm 44, .cells conA), (nm 43, .cells verA), (nm 45, .cells metA), (nm 46, .cells [J 0]), (nm 47, .cells [W])]
def flowA : List (Pth × O) := ctlA (.ifc 153 (.agg [.ptr (nm 48) 0])) ++ (nm 48, .cells [.ptr (nm 1) 0, .nilsl]) :: strU0
def patU : List V := [J 2, .nilsl, .sl (nm 51) 0 2 2 8, J 0, J 0, J 0, J 0, .bool false, J 0, .bool true]
def treeU : List (Pth × List V) := [(nm 51, [J 7, .nilsl, .sl (nm 52) 0 1 1 0, J 0, J 0, J 0, J 0, .bool false, J 1, .sl (nm 53) 0 1 1 2, .nilsl, J 0, J 0, J 0, J 0, .bool false]), (nm 52, [J 1, .sl (nm 54) 0 1 1 2, .nilsl, J 0, J 0, J 0, J 0, .bool false]), (nm 53, [J 228, J 228]), (nm 54, [J 228, J 228])]
def treeO : List (Pth × O) := [(nm 51, .cells [J 7, .nilsl, .sl (nm 52) 0 1 1 0, J 0, J 0, J 0, J 0, .bool false, J 1, .sl (nm 53) 0 1 1 2, .nilsl, J 0, J 0, J 0, J 0, .bool false]), (nm 52, .cells [J 1, .sl (nm 54) 0 1 1 2, .nilsl, J 0, J 0, J 0, J 0, .bool false]), (nm 53, .cells [J 228, J 228]), (nm 54, .cells [J 228, J 228])]
/-- the same as a machine has it -/
def treeM : List (Pth × O) := [(nm 51, .cells [J 7, .nilsl, .sl (nm 52) 0 1 1 8, J 0, J 0, J 0, J 0, .bool false, J 1, .sl (nm 53) 0 1 1 2, .nilsl, J 0, J 0, J 0, J 0, .bool false]), (nm 52, .cells [J 1, .sl (nm 54) 0 1 1 2, .nilsl, J 0, J 0, J 0, J 0, .bool false]), (nm 53, .cells [J 228, J 228]), (nm 54, .cells [J 228, J 228])]
def newA : List (Pth × O) := (nm 30, .cells [J 2, .nilsl, .sl (nm 51) 0 2 2 8, J 0, J 0, J 0, J 0, .bool false, J 0, .bool true, .nilsl, .nilsl, .nilsl, J 0, J 0, J 0, J 0, .bool false, .bool false]) :: treeM
def isNew (v : V) : Bool := match v with | .tup [.ptr _ 0, .int .i64 0] => true | _ => false
def newL0 (v : V) : Asc := match v with | .tup [.ptr p _, _] => [(nm 30, p)] | _ => []
def waitA : List (Pth × O) := ctlA (.ifc 155 (.agg patU)) ++ treeO
def isPtr0 (v : V) : Bool := match v with | .ptr _ 0 => true | _ => false
def staL0 (v : V) : Asc := match v with | .ptr p _ => [(nm 40, p)] | _ => []
def txtU : List Nat := [92, 117, 123, 101, 52, 125]
def txtW : List Nat := [40, 63, 61, 92, 117, 123, 101, 52, 125, 41, 92, 117, 123, 101, 52, 125]
def ruleRo (t : List Nat) : List (Pth × List V) := [(nm 1, [.str [97], .str t, .bool true])]
end
theorem run_staU : made (ruleRo txtU) 9 [.sl (nm 1) 0 1 1 0, J 1048576] flowA staL0 isPtr0 = true := by decide +kernel
theorem run_staW : made (ruleRo txtW) 9 [.sl (nm 1) 0 1 1 0, J 1048576] waitA staL0 isPtr0 = true := by decide +kernel
theorem fit_strU0 : fitF [] [] (idl [1, 2, 3, 4, 5, 6, 7, 8, 9, 10, 11, 12]) strU0 (hp flowA) = true := by decide +kernel
theorem tree_ro : inH (hp treeO) treeU = true := by decide +kernel
theorem fit_tree : fitF [] [] (idl [51, 52, 53, 54]) treeO (hp waitA) = true := by decide +kernel
theorem names_strU0 : ∀ p ∈ names strU0, ∃ i ∈ [1, 2, 3, 4, 5, 6, 7, 8, 9, 10, 11, 12], p = nm i := by decide +kernel
theorem names_tree : ∀ p ∈ names treeO, ∃ i ∈ [51, 52, 53, 54], p = nm i := by decide +kernel
theorem names_treeM : ∀ p ∈ names treeM, ∃ i ∈ [51, 52, 53, 54], p = nm i := by decide +kernel
theorem run_new : made treeU 149 [.agg patU] newA newL0 isNew = true := by decide +kernel
end Go.Proofs.YtahmcjdddcbhnaaGreatDoor
