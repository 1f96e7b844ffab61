/- Functions that are run by the kernel. No conditions. -/
import Derived.Test.YtbekogkbdmaobaaEf34
namespace Go.EF
open Go Go.RowKit

abbrev Fns := List (Nat × Nat × List ResultVar × CC)

def Fns.find : Fns → Nat → Option (Nat × List ResultVar × CC)
  | [], _ => none
  | (g, x) :: r, f => match Nat.beq g f with | true => some x | false => Fns.find r f

def xres (P : Program) (rs : List ResultVar) (fr : Nat → AV) (st : St) : Option (AV × St) := match resV P rs fr st with | some r => some (r, st) | none => none

def run (P : Program) (tab : Fns) (fuel : Nat) : Nat → AV → List AV → St → Option (AV × St)
  | 0, _, _, _ => none
  | n + 1, x, args, st => match x with
    | .fn f first cap => match tab.find f with
      | some (N, rs, cc) => match Nat.ble (first ++ args ++ cap).length N with
        | true => match xc P (run P tab fuel n) N fuel cc (frame0 (first ++ args ++ cap)) st with
          | some (.normal, fr', st') => xres P rs fr' st'
          | some (.ret, fr', st') => xres P rs fr' st'
          | _ => none
        | false => none
      | none => none
    | .yld l => match st.get l with
      | some (.loop .ready _ fr N ps ca cb) => match comp P N ca with
        | some asg => match comp P N cb with
          | some body => match Nat.beq args.length ps.length with
            | true => match xc P (run P tab fuel n) N fuel asg (updz fr ps args) st with
              | some (.normal, fr1, st1) => match st1.get l with
                | some (.loop .ready q1 f1 N1 p1 a1 b1) => match xc P (run P tab fuel n) N fuel body fr1 (st1.set l (.loop .busy q1 f1 N1 p1 a1 b1)) with
                  | some (y, _, st2) => match st2.get l with
                    | some (.loop .busy _ f2 N2 p2 a2 b2) => match y with
                      | .normal => some (.bool true, st2.set l (.loop .ready none f2 N2 p2 a2 b2))
                      | .ret => some (.bool false, st2.set l (.loop .done (some .ret) f2 N2 p2 a2 b2))
                      | .exit id => some (.bool false, st2.set l (.loop .done (some (.exit id)) f2 N2 p2 a2 b2))
                    | _ => none
                  | none => none
                | _ => none
              | _ => none
            | false => none
          | none => none
        | none => none
      | _ => none
    | _ => none

section
variable {P : Program} {tab : Fns}

theorem Fns.find_ok {Q : Nat → (Nat × List ResultVar × CC) → Prop} : ∀ {tab : Fns}, (∀ p ∈ tab, Q p.1 p.2) → ∀ {f x}, tab.find f = some x → Q f x
  | [], _, f, x, h => by simp [Fns.find] at h
  | (g, y) :: r, hq, f, x, h => by
    simp only [Fns.find] at h
    split at h
    · rename_i hb
      cases h
      have := hq _ (List.mem_cons_self ..)
      rwa [Nat.eq_of_beq_eq_true hb] at this
    · exact find_ok (fun p hp => hq p (List.mem_cons_of_mem _ hp)) h

theorem xres_ok {rs : List ResultVar} {fr : Nat → AV} {st : St} {r : AV} {st' : St} (h : xres P rs fr st = some (r, st')) : resV P rs fr st = some r ∧ st' = st := by
  unfold xres at h
  split at h
  · cases h; exact ⟨‹_›, rfl⟩
  · cases h

def isTrue : Option (AV × St) → Bool
  | some (.v (.bool b), _) => b
  | _ => false

end
end Go.EF
