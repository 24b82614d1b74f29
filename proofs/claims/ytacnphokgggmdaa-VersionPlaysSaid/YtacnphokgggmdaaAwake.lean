/- The example of the versions answers true. -/
import Derived.Test.YtacnphokgggmdaaVS
namespace Go.Proofs.Ytacnphokgggmdaa
open Go.RowKit

def sa : Value := .string ⟨#[97]⟩
def sb : Value := .string ⟨#[98]⟩
def se : Value := .string ByteArray.empty
def a0 : St := S.st0 sa
def a1 : St := a0.pin se
def a2 : St := a1.commit sb
def a3 : St := a2.release se 0

set_option maxHeartbeats 1000000 in
theorem awake_any (w : World) : Calls Try.prog 14 #[] w fun e w' => e = .returned (.bool true) ∧ Below w.heap.size w w' := by
  go_enter Try.func14, Try.ntmps14
  go_wp2_with fail
  refine (S.new_any sa _ ⟨_, rfl⟩).mono ?_
  rintro e w1 ⟨b, mb, rfl, S1, hb, hmb, hbel1⟩
  have H1 := hidp (show S.StoreIs w1 b mb a0 from S1)
  clear S1
  go_wp2_with fail
  refine (S.pin_yes b mb a0 _ H1.out (by decide) (by decide) ⟨⟨#[97]⟩, rfl⟩).mono ?_
  rintro e w2 ⟨rfl, S2, hF2⟩
  have H2 := hidp (show S.StoreIs w2 b mb a1 from S2)
  have hb2 := hbel1.trans (hF2.below hbel1.size hb hmb)
  clear S2 hF2 hbel1 H1
  rw [show a0.head = 0 from rfl]
  go_wp2_with fail
  refine (S.commit_yes b mb a1 sb _ H2.out (by decide) (by decide) ⟨⟨#[98]⟩, rfl⟩).mono ?_
  rintro e w3 ⟨rfl, S3, hF3⟩
  have H3 := hidp (show S.StoreIs w3 b mb a2 from S3)
  have hb3 := hb2.trans (hF3.below hb2.size hb hmb)
  clear S3 hF3 hb2 H2
  rw [show a1.head = 0 from rfl]
  go_wp2_with fail
  refine (S.at_yes b mb a2 0 _ H3.out ⟨⟨#[97]⟩, rfl⟩).mono ?_
  rintro e w4 ⟨rfl, hbel4⟩
  have H4 := hidp (show S.StoreIs w4 b mb a2 from ⟨heap_below hbel4 H3.out.blk (ltOf H3.out.blk), H3.out.map.below hbel4 H3.out.map.lt⟩)
  have hb4 := hb3.trans (hbel4.mono hb3.size)
  clear hbel4 hb3 H3
  rw [show a2.val (.string ByteArray.empty) 0 = .string ⟨#[97]⟩ from rfl, show (a2.g 0).isSome = true from rfl]
  go_wp2_with fail
  refine (S.release_yes b mb a2 0 _ H4.out (by decide) (by decide) ⟨⟨#[97]⟩, rfl⟩).mono ?_
  rintro e w5 ⟨rfl, S5, hF5⟩
  have H5 := hidp (show S.StoreIs w5 b mb a3 from S5)
  have hb5 := hb4.trans (hF5.below hb4.size hb hmb)
  clear S5 hF5 hb4 H4
  go_wp2_with fail
  refine (S.at_yes b mb a3 0 _ H5.out ⟨ByteArray.empty, rfl⟩).mono ?_
  rintro e w6 ⟨rfl, hbel6⟩
  have H6 := hidp (show S.StoreIs w6 b mb a3 from ⟨heap_below hbel6 H5.out.blk (ltOf H5.out.blk), H5.out.map.below hbel6 H5.out.map.lt⟩)
  have hb6 := hb5.trans (hbel6.mono hb5.size)
  clear hbel6 hb5 H5
  rw [show a3.val (.string ByteArray.empty) 0 = .string ByteArray.empty from rfl, show (a3.g 0).isSome = false from rfl]
  go_wp2_with fail
  refine (S.live_yes b mb a3 _ H6.out).mono ?_
  rintro e w7 ⟨rfl, rfl⟩
  rw [show (a3.n : Int) = 1 from rfl]
  go_wp2
  go_ret
  exact ⟨rfl, hb6⟩
end Go.Proofs.Ytacnphokgggmdaa
