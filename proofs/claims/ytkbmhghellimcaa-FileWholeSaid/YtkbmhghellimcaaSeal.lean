/- The walks of file.Seal, file.Open. -/
import Derived.Test.YtkbmhghellimcaaText
import Derived.Test.YtkbmhghellimcaaLong
namespace Go.Proofs.Ytkbmhghellimcaa
open Go.RowKit
attribute [local go_sem] size_str get_str ByteArray.mk_append_mk ByteArray.extract_mk

def headL (text : List UInt8) : List UInt8 := [79, 84] ++ shortL text.length ++ text
def sealL (text : List UInt8) : List UInt8 := headL text ++ (shaL (headL text)).take 16
theorem length_shortF : ∀ (f n : Nat), (shortF f n).length ≤ f
  | 0, _ => by simp [shortF]
  | f + 1, n => by
    unfold shortF
    split
    · simp
    · have := length_shortF f (n / 128)
      simp; omega

set_option maxRecDepth 100000 in
set_option maxHeartbeats 1000000 in
theorem seal_any (text : List UInt8) (w : World) (hl : text.length < 100000) :
    Calls Try.prog 7 #[str text] w fun e w' => e = .returned (str (sealL text)) ∧ Below w.heap.size w w' := by
  have H := Lib.hid (show sealL text = headL text ++ (shaL (headL text)).take 16 from rfl)
  have H0 := Lib.hid (show headL text = [79, 84] ++ shortL text.length ++ text from rfl)
  have hsl : (shortL text.length).length ≤ 10 := length_shortF 10 _
  go_enter Try.func7, Try.ntmps7
  go_wp2_with fail
  refine (short_any text.length _ (by omega)).mono ?_
  rintro e w1 ⟨rfl, hb1⟩
  generalize shortL text.length = q at H0 hsl ⊢
  go_wp2_with fail
  have e1 : (79 :: 84 :: (q ++ text)) = headL text := by rw [H0.out]; simp
  have e2 : (headL text).length < 200000 := by rw [← e1]; simp; omega
  rw [e1]
  generalize headL text = hd at H e2 ⊢
  clear e1 H0
  have ht := text_cells w1.heap.size 9 [hd] 1 (w1.alloc (.cells #[str hd] 9)) (Blk.new _ _ _) (Nat.le_refl _) (by simp; omega) (by simp)
  rw [show [hd].flatten = hd by simp] at ht
  refine ht.mono ?_
  rintro e w2 ⟨rfl, hb2⟩
  have h32 : 16 ≤ (shaL hd).length := by rw [length_sha]; decide
  have h33 : (shaL hd).length ≤ 32 := by rw [length_sha]; decide
  clear ht
  generalize shaL hd = d at H h32 h33 ⊢
  go_wp2
  go_ret
  refine ⟨?_, (hb1.alloc hb1.size _).trans (hb2.mono (by simp; have := hb1.size; omega))⟩
  rw [H.out]
  rfl

theorem ret_two {a b : Value} {c d : Int} {k : IntKind} (h1 : a = b) (h2 : c = d) : Ending.returned (.tuple #[a, .int k c]) = .returned (.tuple #[b, .int k d]) := by rw [h1, h2]
/-- A sealed text's text, if it is one. -/
def openL (s : List UInt8) : Option (List UInt8) :=
  if [79, 84].isPrefixOf s = true then
    let r := s.drop 2
    let (n, k, e) := longR 0 0 r
    if e = 0 ∧ n = r.length - k - 16 then
      let t := (r.drop k).take n
      if sealL t = s then some t else none
    else none
  else none
end Go.Proofs.Ytkbmhghellimcaa
