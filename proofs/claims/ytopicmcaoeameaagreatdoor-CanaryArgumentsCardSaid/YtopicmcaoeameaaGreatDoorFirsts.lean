/-
  First at the text [97, x]: its contract, for the eight texts of rules, every x and every position.
-/
import Derived.Test.YtopicmcaoeameaaGreatDoorNew
import Derived.Test.YtopicmcaoeameaaGreatDoorCallM
import Derived.Test.YtopicmcaoeameaaGreatDoorFirstA
import Derived.Test.YtopicmcaoeameaaGreatDoorFirstB
import Derived.Test.YtopicmcaoeameaaGreatDoorFirstC
import Derived.Test.YtopicmcaoeameaaGreatDoorFirstD
namespace Go.Proofs.YtopicmcaoeameaaGreatDoor
open Go Go.Ev Go.RowKit

theorem first_chk : ∀ k, k < 8 → ∀ f, f < 3 → chkFs k f = true
  | 0, _, 0, _ => first00
  | 0, _, 1, _ => first01
  | 0, _, 2, _ => first02
  | 1, _, 0, _ => first10
  | 1, _, 1, _ => first11
  | 1, _, 2, _ => first12
  | 2, _, 0, _ => first20
  | 2, _, 1, _ => first21
  | 2, _, 2, _ => first22
  | 3, _, 0, _ => first30
  | 3, _, 1, _ => first31
  | 3, _, 2, _ => first32
  | 4, _, 0, _ => first40
  | 4, _, 1, _ => first41
  | 4, _, 2, _ => first42
  | 5, _, 0, _ => first50
  | 5, _, 1, _ => first51
  | 5, _, 2, _ => first52
  | 6, _, 0, _ => first60
  | 6, _, 1, _ => first61
  | 6, _, 2, _ => first62
  | 7, _, 0, _ => first70
  | 7, _, 1, _ => first71
  | 7, _, 2, _ => first72
  | _, _, n + 3, h => absurd h (by omega)
  | n + 8, h, _, _ => absurd h (by omega)
/-- what First gives at the text [97, x] -/
noncomputable def FX (x : Int) (k f : Nat) : FR := match firstR k (cls x) f with | some (s, e, ok, err) => ⟨s, e, ok, err⟩ | none => ⟨0, 0, false, 0⟩
theorem cell_rel {x : Int} (h1 : -9223372036854775808 ≤ x) (h2 : x ≤ 9223372036854775807) (ι : Emb) (hσ : ι.sym = fun _ => x) : V.rel ι (cellV 1 (bnd (cls x))) (.int .i64 x) := by
  have hs : ι.sym 1 = x := by rw [hσ]
  have key : ∀ a b : Int, ieq a b = false → a ≤ x → x ≤ b → V.rel ι (cellV 1 (a, b)) (.int .i64 x) := fun a b h ha hb => by
    unfold cellV
    rw [h]
    simp only [V.rel, hs]
    exact ⟨trivial, ha, hb⟩
  unfold cls
  split
  · exact key _ _ (by decide) h1 (by omega)
  split
  · exact key _ _ (by decide) (by omega) (by omega)
  split
  · rename_i e; subst e; exact rfl
  split
  · rename_i e; subst e; exact rfl
  split
  · rename_i e; subst e; exact rfl
  split
  · exact key _ _ (by decide) (by omega) (by omega)
  · exact key _ _ (by decide) (by omega) h2
theorem firstV_inv {k c f : Nat} {R : Int × Int × Bool × Int} (h : firstV k c f = some R) : ∃ v H n, (calOf (gloF k c)).fn 30 [.ptr (root k) 0, .sl nT 0 2 2 1, .int .i64 f, .int .i64 2000] .nil n1 = .ok (.tup [.agg [.int .i64 R.1, .int .i64 R.2.1, v], .bool R.2.2.1, .int .i64 R.2.2.2]) H n ∧
    freeH H (nT :: (plan k).map (·.1)) = true ∧ isSl v = true := by
  unfold firstV at h
  split at h
  · rename_i s e v ok err H n h0
    split at h
    · rename_i hf
      split at h
      · rename_i hv
        cases h
        exact ⟨v, H, n, h0, hf, hv⟩
      · cases h
    · cases h
  · cases h
theorem firstM_inv {c f : Nat} {R : Int × Int × Bool × Int} (h : firstM c f = some R) : ∃ v H n, (calOf (gloM c)).fn 30 [.ptr (root 3) 0, .sl nT 0 2 2 1, .int .i64 f, .int .i64 2000] HM n1 = .ok (.tup [.agg [.int .i64 R.1, .int .i64 R.2.1, v], .bool R.2.2.1, .int .i64 R.2.2.2]) H n ∧
    freeH H (nT :: ro3.map (·.1)) = true ∧ isSl v = true ∧ machOK H = true := by
  unfold firstM at h
  split at h
  · rename_i s e v ok err H n h0
    split at h
    · rename_i hf
      split at h
      · rename_i hv
        split at h
        · rename_i hm
          cases h
          exact ⟨v, H, n, h0, hf, hv, hm⟩
        · cases h
      · cases h
    · cases h
  · cases h
theorem out_rel {ι : Emb} {s e : Int} {v : V} {ok : Bool} {err : Int} {y : Value} (hv : isSl v = true) (h : V.rel ι (.tup [.agg [.int .i64 s, .int .i64 e, v], .bool ok, .int .i64 err]) y) :
    ∃ ca cm cc, y = .tuple #[.agg #[.int .i64 s, .int .i64 e, .slice ca cm cc], .bool ok, .int .i64 err] := by
  obtain ⟨cs, rfl, hcs⟩ := h
  obtain ⟨x1, t1, e1, hx1, hcs⟩ := rels_cons_inv hcs
  obtain ⟨x2, t2, e2, hx2, hcs⟩ := rels_cons_inv hcs
  obtain ⟨x3, t3, e3, hx3, hcs⟩ := rels_cons_inv hcs
  have e4 := rels_nil_inv hcs
  subst e4; subst e3; subst e2
  obtain ⟨cs', rfl, hcs'⟩ := hx1
  obtain ⟨y1, u1, d1, hy1, hcs'⟩ := rels_cons_inv hcs'
  obtain ⟨y2, u2, d2, hy2, hcs'⟩ := rels_cons_inv hcs'
  obtain ⟨y3, u3, d3, hy3, hcs'⟩ := rels_cons_inv hcs'
  have d4 := rels_nil_inv hcs'
  subst d4; subst d3; subst d2
  obtain ⟨ca, cm, cc, rfl⟩ := isSl_rel hv hy3
  have hx2' : x2 = .bool ok := hx2
  have hx3' : x3 = .int .i64 err := hx3
  have hy1' : y1 = .int .i64 s := hy1
  have hy2' : y2 = .int .i64 e := hy2
  subst hx2'; subst hx3'; subst hy1'; subst hy2'
  have ec : cs = #[.agg cs', .bool ok, .int .i64 err] := Array.toList_inj.1 e1
  have ec' : cs' = #[.int .i64 s, .int .i64 e, .slice ca cm cc] := Array.toList_inj.1 d1
  subst ec; subst ec'
  exact ⟨ca, cm, cc, rfl⟩
theorem firstOf_args {M : Nat → Prop} {lo hi : Nat} {w : World} {rs : List Rl} (hk : ∀ r ∈ rs, r.k < 8) {x : Int} (h1 : -9223372036854775808 ≤ x) (h2 : x ≤ 9223372036854775807) {tb : Nat} (htb : tb < lo ∨ hi ≤ tb) (htm : ¬ M tb) {el : TypeId} {fr : Nat × Nat}
    (hb : w.heap[tb]? = some (.cells #[.int .i64 97, .int .i64 x] el fr)) : FirstOf M lo hi w (.slice (some ⟨tb, 0, none⟩) 2 2) 2 2000 (FX x) rs := by
  intro w1 hw1 r hr pb hl f hf
  have hc := chkFs_at (first_chk r.k (hk r hr) f (by omega)) (cls x) (cls_lt x)
  have hpl := plan_closed r.k (by have := hk r hr; omega)
  have hlt := (Array.getElem?_eq_some_iff.1 hb).1
  have hb1 := (hw1.block tb hlt htm).trans hb
  obtain ⟨lo', hi', mb, b1, b2, hlaid, hmb⟩ := hl
  have htb' : tb < lo' ∨ hi' ≤ tb := by omega
  unfold chkF at hc
  unfold FX
  split at hc
  · rename_i s e ok err hV
    rw [hV]
    refine ⟨fun he hok => ?_, ?_⟩
    · simp only at he hok
      subst he; subst hok
      simp only [show ieq 0 0 = true from rfl, Bool.and_eq_true, decide_eq_true_eq] at hc
      exact hc
    · unfold firstR at hV
      by_cases h3 : r.k = 3
      · rw [h3] at hV hlaid hmb
        obtain ⟨v, H, n, h0, hfree, hv, hm⟩ := firstM_inv (show firstM (cls x) f = some (s, e, ok, err) from hV)
        refine (callMach (calOf_ok (gloM (cls x))) h0 hfree hm hlaid htb' hb1 (off := 0) (by simp [cellsX]) (fun _ => x) 2 (fun ι hσ => ?_) _ (fun ι hr hT hsz hσ => ?_)).mono fun ed w2 he => ?_
        · exact ⟨_, _, rfl, rfl, _, _, rfl, cell_rel h1 h2 ι hσ, rfl⟩
        · exact rels_cons ⟨pb, 0, hr, rfl⟩ (rels_cons ⟨tb, 0, 2, hT, rfl, Nat.le_refl _, fun h => rfl, fun _ => by rw [hsz]⟩ (rels_cons rfl (rels_one rfl)))
        · obtain ⟨y, ι', rfl, hy, hbel⟩ := he
          obtain ⟨ca, cm, cc, rfl⟩ := out_rel hv hy
          exact ⟨ca, cm, cc, rfl, hbel.more fun k e => (hmb k (by rw [e]; exact hlaid.mb.1) (by rw [e]; exact hlaid.mb.2)).2 ⟨rfl, e⟩⟩
      · have hV' : firstV r.k (cls x) f = some (s, e, ok, err) := by
          have : Nat.beq r.k 3 = false := by
            cases hbq : Nat.beq r.k 3 with
            | false => rfl
            | true => exact absurd (Nat.eq_of_beq_eq_true hbq) h3
          rw [this] at hV
          exact hV
        obtain ⟨v, H, n, h0, hfree, hv⟩ := firstV_inv hV'
        refine (callLaid (calOf_ok (gloF r.k (cls x))) h0 hfree hpl.1 hpl.2.1 hpl.2.2 (hlaid.laid h3) htb' hb1 (off := 0) (by simp [cellsX]) (fun _ => x) 2 (fun ι hσ => ?_) _ (fun ι hr hT hsz hσ => ?_)).mono fun ed w2 he => ?_
        · exact ⟨_, _, rfl, rfl, _, _, rfl, cell_rel h1 h2 ι hσ, rfl⟩
        · exact rels_cons ⟨pb, 0, hr, rfl⟩ (rels_cons ⟨tb, 0, 2, hT, rfl, Nat.le_refl _, fun h => rfl, fun _ => by rw [hsz]⟩ (rels_cons rfl (rels_one rfl)))
        · obtain ⟨y, ι', rfl, hy, hbel⟩ := he
          obtain ⟨ca, cm, cc, rfl⟩ := out_rel hv hy
          exact ⟨ca, cm, cc, rfl, .of hbel⟩
  · cases hc
end Go.Proofs.YtopicmcaoeameaaGreatDoor
