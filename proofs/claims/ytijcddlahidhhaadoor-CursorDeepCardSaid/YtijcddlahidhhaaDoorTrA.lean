/-
  Trees: the data, and the walk down.
-/
import Derived.Test.YtijcddlahidhhaaDoorHlQ
import Derived.Test.YtijcddlahidhhaaDoorCodes
import Derived.Test.YtijcddlahidhhaaDoorHlV
import Derived.IntWalk
set_option linter.unusedSectionVars false
set_option linter.unusedVariables false
set_option linter.unusedSimpArgs false
set_option maxRecDepth 100000
namespace Go.Hl
open Go Go.Proofs

inductive Nd where
  | mk (kind : Int) (gap text : ByteArray) (at_ : Int) (kids : List Nd)

def Nd.kind : Nd → Int
  | .mk k _ _ _ _ => k
def Nd.gap : Nd → ByteArray
  | .mk _ g _ _ _ => g
def Nd.text : Nd → ByteArray
  | .mk _ _ t _ _ => t
def Nd.at_ : Nd → Int
  | .mk _ _ _ a _ => a
def Nd.kids : Nd → List Nd
  | .mk _ _ _ _ ks => ks

mutual
def encN : Nd → List D
  | .mk k g t a ks => [.int .i64 k, .str g, .str t, .int .i64 a, .slice .no 5 (encNs ks)]
def encNs : List Nd → List (List D)
  | [] => []
  | n :: ns => encN n :: encNs ns
end

theorem encN_length : ∀ n, (encN n).length = 5
  | .mk .. => rfl
mutual
theorem encN_lt (n : Nat) : ∀ m : Nd, ltL n (encN m)
  | .mk k g t a ks => by simp only [encN, ltL, D.lt, Own.lt, true_and, and_true]; exact encNs_lt n ks
theorem encNs_lt (n : Nat) : ∀ ks : List Nd, ltX n (encNs ks)
  | [] => trivial
  | k :: ks => ⟨encN_lt n k, encNs_lt n ks⟩
end

def stp (x : Int × Nd) : List D := .int .i64 x.1 :: encN x.2
def encSt (st : List (Int × Nd)) : List (List D) := st.reverse.map stp

theorem ltX_append {n : Nat} : ∀ {xs ys : List (List D)}, ltX n (xs ++ ys) ↔ ltX n xs ∧ ltX n ys
  | [], ys => by simp [ltX]
  | x :: xs, ys => by simp only [List.cons_append, ltX, ltX_append (xs := xs), and_assoc]
theorem encSt_lt (n : Nat) : ∀ st, ltX n (encSt st)
  | [] => trivial
  | (d, m) :: r => by
    have : encSt ((d, m) :: r) = encSt r ++ [stp (d, m)] := by simp [encSt]
    rw [this, ltX_append]
    exact ⟨encSt_lt n r, ⟨⟨trivial, encN_lt n m⟩, trivial⟩⟩

end Go.Hl
