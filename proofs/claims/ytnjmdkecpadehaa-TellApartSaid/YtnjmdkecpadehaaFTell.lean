/- M's code of the functions. Conditions: none; definitions, and that each is the program's. -/
import Derived.Test.YtnjmdkecpadehaaN13
import Derived.Test.YtnjmdkecpadehaaProg
set_option linter.all false
namespace Go.Proofs.Ytnjmdkecpadehaa
open M

/- tollbarlaw0_CopyInts -/
def n_tollbarlaw0_CopyInts : Nat := 19
def r_tollbarlaw0_CopyInts_0 : List O :=
  [⟨(some 2), none, .mov (.c (.slice none 0 0))⟩]
def r_tollbarlaw0_CopyInts_1 : List O :=
  [⟨(some 3), none, .bsl 1 [(.int .i64 0)] 0 []⟩,
   ⟨(some 4), none, .mov (.t 0)⟩,
   ⟨(some 5), none, .app 3 1 8 (.t 3) (.t 4)⟩,
   ⟨(some 2), none, .mov (.t 5)⟩]
def c_tollbarlaw0_CopyInts : MF := ⟨1, [.t 2], (.seq (.reg r_tollbarlaw0_CopyInts_0 [0]) (.seq (.reg r_tollbarlaw0_CopyInts_1 [2]) .ret))⟩
theorem ok_tollbarlaw0_CopyInts : okFun Try.prog n_tollbarlaw0_CopyInts c_tollbarlaw0_CopyInts = true := by kernel_rfl

/- tollbarlaw0_CopyPaths -/
def n_tollbarlaw0_CopyPaths : Nat := 40
def r_tollbarlaw0_CopyPaths_0 : List O :=
  [⟨(some 2), none, .mov (.c (.slice none 0 0))⟩]
def r_tollbarlaw0_CopyPaths_1 : List O :=
  [⟨(some 3), none, .mov (.c (.slice none 0 0))⟩]
def r_tollbarlaw0_CopyPaths_2 : List O :=
  [⟨(some 4), none, .mov (.c (.int .i64 0))⟩]
def r_tollbarlaw0_CopyPaths_3 : List O :=
  [⟨(some 5), none, .mov (.t 4)⟩,
   ⟨(some 6), none, .mov (.t 0)⟩,
   ⟨(some 7), none, .len (.t 6)⟩,
   ⟨(some 8), none, .bin .lss (.t 5) (.t 7)⟩]
def r_tollbarlaw0_CopyPaths_4 : List D :=
  [⟨⟨(some 11), none, .mov (.t 3)⟩, []⟩,
   ⟨⟨(some 12), none, .mov (.t 0)⟩, []⟩,
   ⟨⟨(some 13), none, .mov (.t 4)⟩, []⟩,
   ⟨⟨(some 14), none, .ia 2 (.t 12) (.t 13)⟩, []⟩,
   ⟨⟨(some 15), none, .fa 0 (.t 14)⟩, []⟩,
   ⟨⟨(some 16), none, .load false 1 (.t 15)⟩, []⟩,
   ⟨⟨(some 17), none, .mov (.t 0)⟩, []⟩,
   ⟨⟨(some 18), none, .mov (.t 4)⟩, []⟩,
   ⟨⟨(some 19), none, .ia 2 (.t 17) (.t 18)⟩, []⟩,
   ⟨⟨(some 20), none, .fa 1 (.t 19)⟩, []⟩,
   ⟨⟨(some 21), none, .load false 1 (.t 20)⟩, []⟩,
   ⟨⟨(some 22), none, .call n_tollbarlaw0_CopyInts [(.t 21)]⟩, [5]⟩,
   ⟨⟨(some 23), none, .build [(.int .i64 0), (.slice none 0 0)] [(0, 1, (.t 16)), (1, 1, (.t 22))]⟩, []⟩,
   ⟨⟨(some 24), none, .bsl 2 [(.int .i64 0), (.slice none 0 0)] 1 [(0, (.t 23))]⟩, []⟩,
   ⟨⟨(some 25), none, .app 54 2 32 (.t 11) (.t 24)⟩, []⟩,
   ⟨⟨(some 3), none, .mov (.t 25)⟩, []⟩]
def r_tollbarlaw0_CopyPaths_5 : List O :=
  [⟨(some 9), none, .mov (.t 4)⟩,
   ⟨(some 10), none, .bin .add (.t 9) (.c (.int .i64 1))⟩,
   ⟨(some 4), none, .mov (.t 10)⟩]
def l_tollbarlaw0_CopyPaths_0 : C := (.seq (.seq (.reg r_tollbarlaw0_CopyPaths_3 [0, 3, 4, 8]) (.cond (.t 8) .skip (.exit 0))) (.seq (.blk 1 (.dreg r_tollbarlaw0_CopyPaths_4 [0, 3, 4])) (.reg r_tollbarlaw0_CopyPaths_5 [0, 3, 4])))
def r_tollbarlaw0_CopyPaths_6 : List O :=
  [⟨(some 26), none, .mov (.t 3)⟩,
   ⟨(some 2), none, .mov (.t 26)⟩]
def c_tollbarlaw0_CopyPaths : MF := ⟨1, [.t 2], (.seq (.reg r_tollbarlaw0_CopyPaths_0 [0]) (.seq (.reg r_tollbarlaw0_CopyPaths_1 [0, 3]) (.seq (.seq (.reg r_tollbarlaw0_CopyPaths_2 [0, 3, 4]) (.blk 0 (.loop l_tollbarlaw0_CopyPaths_0))) (.seq (.reg r_tollbarlaw0_CopyPaths_6 [2]) .ret))))⟩
theorem ok_tollbarlaw0_CopyPaths : okFun Try.prog n_tollbarlaw0_CopyPaths c_tollbarlaw0_CopyPaths = true := by kernel_rfl

/- tollbarlaw0_CopyPieces -/
def n_tollbarlaw0_CopyPieces : Nat := 20
def r_tollbarlaw0_CopyPieces_0 : List O :=
  [⟨(some 2), none, .mov (.c (.slice none 0 0))⟩]
def r_tollbarlaw0_CopyPieces_1 : List O :=
  [⟨(some 3), none, .mov (.c (.slice none 0 0))⟩]
def r_tollbarlaw0_CopyPieces_2 : List O :=
  [⟨(some 4), none, .mov (.c (.int .i64 0))⟩]
def r_tollbarlaw0_CopyPieces_3 : List O :=
  [⟨(some 5), none, .mov (.t 4)⟩,
   ⟨(some 6), none, .mov (.t 0)⟩,
   ⟨(some 7), none, .len (.t 6)⟩,
   ⟨(some 8), none, .bin .lss (.t 5) (.t 7)⟩]
def r_tollbarlaw0_CopyPieces_4 : List D :=
  [⟨⟨(some 11), none, .mov (.t 3)⟩, []⟩,
   ⟨⟨(some 12), none, .mov (.t 0)⟩, []⟩,
   ⟨⟨(some 13), none, .mov (.t 4)⟩, []⟩,
   ⟨⟨(some 14), none, .ia 3 (.t 12) (.t 13)⟩, []⟩,
   ⟨⟨(some 15), none, .fa 0 (.t 14)⟩, []⟩,
   ⟨⟨(some 16), none, .load true 2 (.t 15)⟩, []⟩,
   ⟨⟨(some 17), none, .mov (.t 0)⟩, []⟩,
   ⟨⟨(some 18), none, .mov (.t 4)⟩, []⟩,
   ⟨⟨(some 19), none, .ia 3 (.t 17) (.t 18)⟩, []⟩,
   ⟨⟨(some 20), none, .fa 2 (.t 19)⟩, []⟩,
   ⟨⟨(some 21), none, .load false 1 (.t 20)⟩, []⟩,
   ⟨⟨(some 22), none, .call n_tollbarlaw0_CopyPaths [(.t 21)]⟩, [5]⟩,
   ⟨⟨(some 23), none, .build [(.int .i64 0), (.int .i64 0), (.slice none 0 0)] [(0, 2, (.t 16)), (2, 1, (.t 22))]⟩, []⟩,
   ⟨⟨(some 24), none, .bsl 3 [(.int .i64 0), (.int .i64 0), (.slice none 0 0)] 1 [(0, (.t 23))]⟩, []⟩,
   ⟨⟨(some 25), none, .app 52 3 40 (.t 11) (.t 24)⟩, []⟩,
   ⟨⟨(some 3), none, .mov (.t 25)⟩, []⟩]
def r_tollbarlaw0_CopyPieces_5 : List O :=
  [⟨(some 9), none, .mov (.t 4)⟩,
   ⟨(some 10), none, .bin .add (.t 9) (.c (.int .i64 1))⟩,
   ⟨(some 4), none, .mov (.t 10)⟩]
def l_tollbarlaw0_CopyPieces_0 : C := (.seq (.seq (.reg r_tollbarlaw0_CopyPieces_3 [0, 3, 4, 8]) (.cond (.t 8) .skip (.exit 0))) (.seq (.blk 1 (.dreg r_tollbarlaw0_CopyPieces_4 [0, 3, 4])) (.reg r_tollbarlaw0_CopyPieces_5 [0, 3, 4])))
def r_tollbarlaw0_CopyPieces_6 : List O :=
  [⟨(some 26), none, .mov (.t 3)⟩,
   ⟨(some 2), none, .mov (.t 26)⟩]
def c_tollbarlaw0_CopyPieces : MF := ⟨1, [.t 2], (.seq (.reg r_tollbarlaw0_CopyPieces_0 [0]) (.seq (.reg r_tollbarlaw0_CopyPieces_1 [0, 3]) (.seq (.seq (.reg r_tollbarlaw0_CopyPieces_2 [0, 3, 4]) (.blk 0 (.loop l_tollbarlaw0_CopyPieces_0))) (.seq (.reg r_tollbarlaw0_CopyPieces_6 [2]) .ret))))⟩
theorem ok_tollbarlaw0_CopyPieces : okFun Try.prog n_tollbarlaw0_CopyPieces c_tollbarlaw0_CopyPieces = true := by kernel_rfl

/- tollbarlaw0_CopyReply -/
def n_tollbarlaw0_CopyReply : Nat := 8
def r_tollbarlaw0_CopyReply_0 : List O :=
  [⟨(some 1), none, .box 10 (.t 0)⟩,
   ⟨(some 2), none, .alloc 29 [(.int .i64 0), (.int .i64 0), (.int .i64 0), (.slice none 0 0), (.int .i64 0), (.int .i64 0), (.int .i64 0), (.int .i64 0), (.int .i64 0), (.slice none 0 0)]⟩]
def r_tollbarlaw0_CopyReply_1 : List O :=
  [⟨(some 3), none, .fa 2 (.t 1)⟩,
   ⟨(some 4), none, .fa 1 (.t 3)⟩,
   ⟨(some 5), none, .load false 1 (.t 4)⟩,
   ⟨(some 6), none, .call n_tollbarlaw0_CopyInts [(.t 5)]⟩,
   ⟨(some 7), none, .fa 2 (.t 1)⟩,
   ⟨(some 8), none, .fa 1 (.t 7)⟩,
   ⟨none, none, .store 1 (.t 8) (.t 6)⟩]
def r_tollbarlaw0_CopyReply_2 : List O :=
  [⟨(some 9), none, .fa 9 (.t 1)⟩,
   ⟨(some 10), none, .load false 1 (.t 9)⟩,
   ⟨(some 11), none, .call n_tollbarlaw0_CopyPieces [(.t 10)]⟩,
   ⟨(some 12), none, .fa 9 (.t 1)⟩,
   ⟨none, none, .store 1 (.t 12) (.t 11)⟩]
def r_tollbarlaw0_CopyReply_3 : List O :=
  [⟨(some 13), none, .load true 10 (.t 1)⟩,
   ⟨none, none, .store 10 (.t 2) (.t 13)⟩]
def c_tollbarlaw0_CopyReply : MF := ⟨1, [.c 2 true 10], (.seq (.reg r_tollbarlaw0_CopyReply_0 [1, 2]) (.seq (.reg r_tollbarlaw0_CopyReply_1 [1, 2]) (.seq (.reg r_tollbarlaw0_CopyReply_2 [1, 2]) (.seq (.reg r_tollbarlaw0_CopyReply_3 [2]) .ret))))⟩
theorem ok_tollbarlaw0_CopyReply : okFun Try.prog n_tollbarlaw0_CopyReply c_tollbarlaw0_CopyReply = true := by kernel_rfl

/- tell_plain -/
def n_tell_plain : Nat := 44
def r_tell_plain_0 : List O :=
  [⟨(some 1), none, .box 10 (.t 0)⟩,
   ⟨(some 2), none, .alloc 29 [(.int .i64 0), (.int .i64 0), (.int .i64 0), (.slice none 0 0), (.int .i64 0), (.int .i64 0), (.int .i64 0), (.int .i64 0), (.int .i64 0), (.slice none 0 0)]⟩]
def r_tell_plain_1 : List O :=
  [⟨(some 4), none, .fa 4 (.t 1)⟩,
   ⟨(some 5), none, .load false 1 (.t 4)⟩,
   ⟨(some 6), none, .build [(.int .i64 0), (.int .i64 0), (.int .i64 0), (.slice none 0 0), (.int .i64 0), (.int .i64 0), (.int .i64 0), (.int .i64 0), (.int .i64 0), (.slice none 0 0)] [(4, 1, (.t 5))]⟩,
   ⟨(some 3), none, .alloc 29 [(.int .i64 0), (.int .i64 0), (.int .i64 0), (.slice none 0 0), (.int .i64 0), (.int .i64 0), (.int .i64 0), (.int .i64 0), (.int .i64 0), (.slice none 0 0)]⟩,
   ⟨none, none, .store 10 (.t 3) (.t 6)⟩]
def r_tell_plain_2 : List O :=
  [⟨(some 7), none, .fa 4 (.t 1)⟩,
   ⟨(some 8), none, .load false 1 (.t 7)⟩]
def r_tell_plain_3 : List O :=
  [⟨(some 10), none, .bin .eql (.t 8) (.c (.int .i64 1))⟩,
   ⟨(some 9), none, .mov (.t 10)⟩]
def r_tell_plain_4 : List O :=
  [⟨(some 11), none, .fa 5 (.t 1)⟩,
   ⟨(some 12), none, .load false 1 (.t 11)⟩,
   ⟨(some 13), none, .fa 5 (.t 3)⟩,
   ⟨none, none, .store 1 (.t 13) (.t 12)⟩]
def r_tell_plain_5 : List O :=
  [⟨(some 15), none, .bin .eql (.t 8) (.c (.int .i64 2))⟩,
   ⟨(some 14), none, .mov (.t 15)⟩]
def r_tell_plain_6 : List D :=
  [⟨⟨(some 16), none, .fa 0 (.t 1)⟩, []⟩,
   ⟨⟨(some 17), none, .load true 2 (.t 16)⟩, []⟩,
   ⟨⟨(some 18), none, .fa 6 (.t 1)⟩, []⟩,
   ⟨⟨(some 19), none, .load false 1 (.t 18)⟩, []⟩,
   ⟨⟨(some 20), none, .fa 7 (.t 1)⟩, []⟩,
   ⟨⟨(some 21), none, .load false 1 (.t 20)⟩, []⟩,
   ⟨⟨(some 22), none, .fa 9 (.t 1)⟩, []⟩,
   ⟨⟨(some 23), none, .load false 1 (.t 22)⟩, []⟩,
   ⟨⟨(some 24), none, .fa 0 (.t 3)⟩, []⟩,
   ⟨⟨none, none, .store 2 (.t 24) (.t 17)⟩, [3, 5, 7]⟩,
   ⟨⟨(some 25), none, .fa 6 (.t 3)⟩, []⟩,
   ⟨⟨none, none, .store 1 (.t 25) (.t 19)⟩, [5, 7]⟩,
   ⟨⟨(some 26), none, .fa 7 (.t 3)⟩, []⟩,
   ⟨⟨none, none, .store 1 (.t 26) (.t 21)⟩, [7]⟩,
   ⟨⟨(some 27), none, .fa 9 (.t 3)⟩, []⟩,
   ⟨⟨none, none, .store 1 (.t 27) (.t 23)⟩, []⟩]
def r_tell_plain_7 : List O :=
  [⟨(some 29), none, .bin .eql (.t 8) (.c (.int .i64 3))⟩,
   ⟨(some 28), none, .mov (.t 29)⟩]
def r_tell_plain_8 : List O :=
  [⟨(some 30), none, .fa 2 (.t 1)⟩,
   ⟨(some 31), none, .load true 2 (.t 30)⟩,
   ⟨(some 32), none, .fa 2 (.t 3)⟩,
   ⟨none, none, .store 2 (.t 32) (.t 31)⟩]
def r_tell_plain_9 : List O :=
  [⟨(some 34), none, .bin .eql (.t 8) (.c (.int .i64 5))⟩,
   ⟨(some 33), none, .mov (.t 34)⟩]
def r_tell_plain_10 : List O :=
  [⟨(some 35), none, .fa 8 (.t 1)⟩,
   ⟨(some 36), none, .load false 1 (.t 35)⟩,
   ⟨(some 37), none, .fa 8 (.t 3)⟩,
   ⟨none, none, .store 1 (.t 37) (.t 36)⟩]
def r_tell_plain_11 : List O :=
  [⟨(some 38), none, .load true 10 (.t 3)⟩,
   ⟨none, none, .store 10 (.t 2) (.t 38)⟩]
def c_tell_plain : MF := ⟨1, [.c 2 true 10], (.seq (.reg r_tell_plain_0 [1, 2]) (.seq (.reg r_tell_plain_1 [1, 2, 3]) (.seq (.seq (.reg r_tell_plain_2 [1, 2, 3, 8]) (.blk 0 (.seq (.reg r_tell_plain_3 [1, 2, 3, 8, 9]) (.cond (.t 9) (.reg r_tell_plain_4 [2, 3]) (.seq (.reg r_tell_plain_5 [1, 2, 3, 8, 14]) (.cond (.t 14) (.dreg r_tell_plain_6 [2, 3]) (.seq (.reg r_tell_plain_7 [1, 2, 3, 8, 28]) (.cond (.t 28) (.reg r_tell_plain_8 [2, 3]) (.seq (.reg r_tell_plain_9 [1, 2, 3, 33]) (.cond (.t 33) (.reg r_tell_plain_10 [2, 3]) .skip)))))))))) (.seq (.reg r_tell_plain_11 [2]) .ret))))⟩
theorem ok_tell_plain : okFun Try.prog n_tell_plain c_tell_plain = true := by kernel_rfl

/- tell_isPlain -/
def n_tell_isPlain : Nat := 25
def r_tell_isPlain_0 : List O :=
  [⟨(some 1), none, .box 10 (.t 0)⟩,
   ⟨(some 2), none, .mov (.c (.bool false))⟩]
def r_tell_isPlain_1 : List O :=
  [⟨(some 4), none, .load true 10 (.t 1)⟩,
   ⟨(some 5), none, .call n_tell_plain [(.t 4)]⟩,
   ⟨(some 3), none, .alloc 29 [(.int .i64 0), (.int .i64 0), (.int .i64 0), (.slice none 0 0), (.int .i64 0), (.int .i64 0), (.int .i64 0), (.int .i64 0), (.int .i64 0), (.slice none 0 0)]⟩,
   ⟨none, none, .store 10 (.t 3) (.t 5)⟩]
def r_tell_isPlain_2 : List O :=
  [⟨(some 6), none, .fa 0 (.t 3)⟩,
   ⟨(some 7), none, .load true 2 (.t 6)⟩,
   ⟨(some 8), none, .fa 0 (.t 1)⟩,
   ⟨(some 9), none, .load true 2 (.t 8)⟩,
   ⟨(some 10), none, .eqs false [0, 0] (.t 7) (.t 9)⟩,
   ⟨(some 11), none, .mov (.t 10)⟩,
   ⟨(some 12), (some (11, true)), .fa 2 (.t 3)⟩,
   ⟨(some 13), (some (11, true)), .fa 0 (.t 12)⟩,
   ⟨(some 14), (some (11, true)), .load false 1 (.t 13)⟩,
   ⟨(some 15), (some (11, true)), .fa 2 (.t 1)⟩,
   ⟨(some 16), (some (11, true)), .fa 0 (.t 15)⟩,
   ⟨(some 17), (some (11, true)), .load false 1 (.t 16)⟩,
   ⟨(some 18), (some (11, true)), .bin .eql (.t 14) (.t 17)⟩,
   ⟨(some 19), none, .pick (.t 11) (.t 18) (.c (.bool false))⟩,
   ⟨(some 20), none, .mov (.t 19)⟩,
   ⟨(some 21), (some (20, true)), .fa 2 (.t 3)⟩,
   ⟨(some 22), (some (20, true)), .fa 1 (.t 21)⟩,
   ⟨(some 23), (some (20, true)), .load false 1 (.t 22)⟩,
   ⟨(some 24), (some (20, true)), .len (.t 23)⟩,
   ⟨(some 25), (some (20, true)), .fa 2 (.t 1)⟩,
   ⟨(some 26), (some (20, true)), .fa 1 (.t 25)⟩,
   ⟨(some 27), (some (20, true)), .load false 1 (.t 26)⟩,
   ⟨(some 28), (some (20, true)), .len (.t 27)⟩,
   ⟨(some 29), (some (20, true)), .bin .eql (.t 24) (.t 28)⟩,
   ⟨(some 30), none, .pick (.t 20) (.t 29) (.c (.bool false))⟩,
   ⟨(some 31), none, .mov (.t 30)⟩,
   ⟨(some 32), (some (31, true)), .fa 5 (.t 3)⟩,
   ⟨(some 33), (some (31, true)), .load false 1 (.t 32)⟩,
   ⟨(some 34), (some (31, true)), .fa 5 (.t 1)⟩,
   ⟨(some 35), (some (31, true)), .load false 1 (.t 34)⟩,
   ⟨(some 36), (some (31, true)), .bin .eql (.t 33) (.t 35)⟩,
   ⟨(some 37), none, .pick (.t 31) (.t 36) (.c (.bool false))⟩,
   ⟨(some 38), none, .mov (.t 37)⟩,
   ⟨(some 39), (some (38, true)), .fa 6 (.t 3)⟩,
   ⟨(some 40), (some (38, true)), .load false 1 (.t 39)⟩,
   ⟨(some 41), (some (38, true)), .fa 6 (.t 1)⟩,
   ⟨(some 42), (some (38, true)), .load false 1 (.t 41)⟩,
   ⟨(some 43), (some (38, true)), .bin .eql (.t 40) (.t 42)⟩,
   ⟨(some 44), none, .pick (.t 38) (.t 43) (.c (.bool false))⟩,
   ⟨(some 45), none, .mov (.t 44)⟩,
   ⟨(some 46), (some (45, true)), .fa 7 (.t 3)⟩,
   ⟨(some 47), (some (45, true)), .load false 1 (.t 46)⟩,
   ⟨(some 48), (some (45, true)), .fa 7 (.t 1)⟩,
   ⟨(some 49), (some (45, true)), .load false 1 (.t 48)⟩,
   ⟨(some 50), (some (45, true)), .bin .eql (.t 47) (.t 49)⟩,
   ⟨(some 51), none, .pick (.t 45) (.t 50) (.c (.bool false))⟩,
   ⟨(some 52), none, .mov (.t 51)⟩,
   ⟨(some 53), (some (52, true)), .fa 8 (.t 3)⟩,
   ⟨(some 54), (some (52, true)), .load false 1 (.t 53)⟩,
   ⟨(some 55), (some (52, true)), .fa 8 (.t 1)⟩,
   ⟨(some 56), (some (52, true)), .load false 1 (.t 55)⟩,
   ⟨(some 57), (some (52, true)), .bin .eql (.t 54) (.t 56)⟩,
   ⟨(some 58), none, .pick (.t 52) (.t 57) (.c (.bool false))⟩,
   ⟨(some 59), none, .mov (.t 58)⟩,
   ⟨(some 60), (some (59, true)), .fa 9 (.t 3)⟩,
   ⟨(some 61), (some (59, true)), .load false 1 (.t 60)⟩,
   ⟨(some 62), (some (59, true)), .len (.t 61)⟩,
   ⟨(some 63), (some (59, true)), .fa 9 (.t 1)⟩,
   ⟨(some 64), (some (59, true)), .load false 1 (.t 63)⟩,
   ⟨(some 65), (some (59, true)), .len (.t 64)⟩,
   ⟨(some 66), (some (59, true)), .bin .eql (.t 62) (.t 65)⟩,
   ⟨(some 67), none, .pick (.t 59) (.t 66) (.c (.bool false))⟩,
   ⟨(some 2), none, .mov (.t 67)⟩]
def c_tell_isPlain : MF := ⟨1, [.t 2], (.seq (.reg r_tell_isPlain_0 [1]) (.seq (.reg r_tell_isPlain_1 [1, 3]) (.seq (.reg r_tell_isPlain_2 [2]) .ret)))⟩
theorem ok_tell_isPlain : okFun Try.prog n_tell_isPlain c_tell_isPlain = true := by kernel_rfl

/- rate_Is -/
def n_rate_Is : Nat := 26
def r_rate_Is_0 : List O :=
  [⟨(some 2), none, .mov (.c (.bool false))⟩]
def r_rate_Is_1 : List O :=
  [⟨(some 3), none, .mov (.t 0)⟩,
   ⟨(some 4), none, .bin .geq (.t 3) (.c (.int .i64 0))⟩,
   ⟨(some 5), none, .mov (.t 4)⟩,
   ⟨(some 6), (some (5, true)), .mov (.t 0)⟩,
   ⟨(some 7), (some (5, true)), .bin .leq (.t 6) (.c (.int .i64 4611686018427387904))⟩,
   ⟨(some 8), none, .pick (.t 5) (.t 7) (.c (.bool false))⟩,
   ⟨(some 2), none, .mov (.t 8)⟩]
def c_rate_Is : MF := ⟨1, [.t 2], (.seq (.reg r_rate_Is_0 [0]) (.seq (.reg r_rate_Is_1 [2]) .ret))⟩
theorem ok_rate_Is : okFun Try.prog n_rate_Is c_rate_Is = true := by kernel_rfl

/- span_May -/
def n_span_May : Nat := 27
def r_span_May_0 : List O :=
  [⟨(some 1), none, .box 2 (.t 0)⟩,
   ⟨(some 2), none, .mov (.c (.bool false))⟩]
def r_span_May_1 : List O :=
  [⟨(some 3), none, .fa 0 (.t 1)⟩,
   ⟨(some 4), none, .load false 1 (.t 3)⟩,
   ⟨(some 5), none, .bin .geq (.t 4) (.c (.int .i64 0))⟩,
   ⟨(some 6), none, .mov (.t 5)⟩,
   ⟨(some 7), (some (6, true)), .fa 0 (.t 1)⟩,
   ⟨(some 8), (some (6, true)), .load false 1 (.t 7)⟩,
   ⟨(some 9), (some (6, true)), .fa 1 (.t 1)⟩,
   ⟨(some 10), (some (6, true)), .load false 1 (.t 9)⟩,
   ⟨(some 11), (some (6, true)), .bin .lss (.t 8) (.t 10)⟩,
   ⟨(some 12), none, .pick (.t 6) (.t 11) (.c (.bool false))⟩,
   ⟨(some 13), none, .mov (.t 12)⟩,
   ⟨(some 14), (some (13, true)), .fa 1 (.t 1)⟩,
   ⟨(some 15), (some (13, true)), .load false 1 (.t 14)⟩,
   ⟨(some 16), (some (13, true)), .bin .leq (.t 15) (.c (.int .i64 4096))⟩,
   ⟨(some 17), none, .pick (.t 13) (.t 16) (.c (.bool false))⟩,
   ⟨(some 2), none, .mov (.t 17)⟩]
def c_span_May : MF := ⟨1, [.t 2], (.seq (.reg r_span_May_0 [1]) (.seq (.reg r_span_May_1 [2]) .ret))⟩
theorem ok_span_May : okFun Try.prog n_span_May c_span_May = true := by kernel_rfl

/- tell_pathMay -/
def n_tell_pathMay : Nat := 45
def r_tell_pathMay_0 : List O :=
  [⟨(some 1), none, .box 2 (.t 0)⟩,
   ⟨(some 2), none, .mov (.c (.bool false))⟩]
def r_tell_pathMay_1 : List O :=
  [⟨(some 5), none, .fa 0 (.t 1)⟩,
   ⟨(some 6), none, .load false 1 (.t 5)⟩,
   ⟨(some 7), none, .bin .leq (.t 6) (.c (.int .i64 0))⟩,
   ⟨(some 8), none, .mov (.t 7)⟩,
   ⟨(some 9), (some (8, false)), .fa 0 (.t 1)⟩,
   ⟨(some 10), (some (8, false)), .load false 1 (.t 9)⟩,
   ⟨(some 11), (some (8, false)), .call n_rate_Is [(.t 10)]⟩,
   ⟨(some 12), (some (8, false)), .un .not (.t 11)⟩,
   ⟨(some 13), none, .pick (.t 8) (.c (.bool true)) (.t 12)⟩,
   ⟨(some 14), none, .mov (.t 13)⟩,
   ⟨(some 15), (some (14, false)), .fa 1 (.t 1)⟩,
   ⟨(some 16), (some (14, false)), .load false 1 (.t 15)⟩,
   ⟨(some 17), (some (14, false)), .len (.t 16)⟩,
   ⟨(some 18), (some (14, false)), .bin .lss (.t 17) (.c (.int .i64 1))⟩,
   ⟨(some 19), none, .pick (.t 14) (.c (.bool true)) (.t 18)⟩,
   ⟨(some 20), none, .mov (.t 19)⟩,
   ⟨(some 21), (some (20, false)), .fa 1 (.t 1)⟩,
   ⟨(some 22), (some (20, false)), .load false 1 (.t 21)⟩,
   ⟨(some 23), (some (20, false)), .len (.t 22)⟩,
   ⟨(some 24), (some (20, false)), .bin .gtr (.t 23) (.c (.int .i64 16))⟩,
   ⟨(some 25), none, .pick (.t 20) (.c (.bool true)) (.t 24)⟩]
def r_tell_pathMay_2 : List O :=
  [⟨(some 2), none, .mov (.c (.bool false))⟩]
def r_tell_pathMay_3 : List O :=
  [⟨(some 26), none, .fa 1 (.t 1)⟩,
   ⟨(some 27), none, .load false 1 (.t 26)⟩,
   ⟨(some 28), none, .len (.t 27)⟩,
   ⟨(some 29), none, .mov (.c (.int .i64 0))⟩]
def r_tell_pathMay_4 : List O :=
  [⟨(some 30), none, .bin .lss (.t 29) (.t 28)⟩]
def r_tell_pathMay_5 : List O :=
  [⟨(some 31), none, .ia 1 (.t 27) (.t 29)⟩,
   ⟨(some 32), none, .load false 1 (.t 31)⟩,
   ⟨(some 4), none, .mov (.t 32)⟩]
def r_tell_pathMay_6 : List O :=
  [⟨(some 33), none, .mov (.t 4)⟩,
   ⟨(some 34), none, .bin .lss (.t 33) (.c (.int .i64 0))⟩,
   ⟨(some 35), none, .mov (.t 34)⟩,
   ⟨(some 36), (some (35, false)), .mov (.t 4)⟩,
   ⟨(some 37), (some (35, false)), .bin .geq (.t 36) (.c (.int .i64 16))⟩,
   ⟨(some 38), none, .pick (.t 35) (.c (.bool true)) (.t 37)⟩]
def r_tell_pathMay_7 : List O :=
  [⟨(some 2), none, .mov (.c (.bool false))⟩]
def r_tell_pathMay_8 : List O :=
  [⟨(some 39), none, .bin .add (.t 29) (.c (.int .i64 1))⟩,
   ⟨(some 29), none, .mov (.t 39)⟩]
def l_tell_pathMay_0 : C := (.seq (.reg r_tell_pathMay_4 [27, 28, 29, 30]) (.seq (.cond (.t 30) .skip (.exit 0)) (.seq (.blk 1 (.seq (.reg r_tell_pathMay_5 [4, 27, 28, 29]) (.seq (.reg r_tell_pathMay_6 [27, 28, 29, 38]) (.cond (.t 38) (.seq (.reg r_tell_pathMay_7 [2]) .ret) .skip)))) (.reg r_tell_pathMay_8 [27, 28, 29]))))
def r_tell_pathMay_9 : List O :=
  [⟨(some 2), none, .mov (.c (.bool true))⟩]
def c_tell_pathMay : MF := ⟨1, [.t 2], (.seq (.reg r_tell_pathMay_0 [1]) (.seq (.seq (.reg r_tell_pathMay_1 [1, 25]) (.cond (.t 25) (.seq (.reg r_tell_pathMay_2 [2]) .ret) .skip)) (.seq (.seq (.reg r_tell_pathMay_3 [27, 28, 29]) (.blk 0 (.loop l_tell_pathMay_0))) (.seq (.reg r_tell_pathMay_9 [2]) .ret))))⟩
theorem ok_tell_pathMay : okFun Try.prog n_tell_pathMay c_tell_pathMay = true := by kernel_rfl

/- tell_piecesMay -/
def n_tell_piecesMay : Nat := 28
def r_tell_piecesMay_0 : List O :=
  [⟨(some 2), none, .box 2 (.t 0)⟩,
   ⟨(some 4), none, .mov (.c (.bool false))⟩]
def r_tell_piecesMay_1 : List O :=
  [⟨(some 10), none, .mov (.t 1)⟩,
   ⟨(some 11), none, .len (.t 10)⟩,
   ⟨(some 12), none, .bin .lss (.t 11) (.c (.int .i64 1))⟩,
   ⟨(some 13), none, .mov (.t 12)⟩,
   ⟨(some 14), (some (13, false)), .mov (.t 1)⟩,
   ⟨(some 15), (some (13, false)), .len (.t 14)⟩,
   ⟨(some 16), (some (13, false)), .bin .gtr (.t 15) (.c (.int .i64 8))⟩,
   ⟨(some 17), none, .pick (.t 13) (.c (.bool true)) (.t 16)⟩]
def r_tell_piecesMay_2 : List O :=
  [⟨(some 4), none, .mov (.c (.bool false))⟩]
def r_tell_piecesMay_3 : List O :=
  [⟨(some 18), none, .fa 0 (.t 2)⟩,
   ⟨(some 19), none, .load false 1 (.t 18)⟩,
   ⟨(some 5), none, .mov (.t 19)⟩]
def r_tell_piecesMay_4 : List O :=
  [⟨(some 20), none, .mov (.t 1)⟩,
   ⟨(some 21), none, .len (.t 20)⟩,
   ⟨(some 22), none, .mov (.c (.int .i64 0))⟩]
def r_tell_piecesMay_5 : List O :=
  [⟨(some 23), none, .bin .lss (.t 22) (.t 21)⟩]
def r_tell_piecesMay_6 : List O :=
  [⟨(some 24), none, .ia 3 (.t 20) (.t 22)⟩,
   ⟨(some 25), none, .load true 3 (.t 24)⟩,
   ⟨(some 7), none, .alloc 52 [(.int .i64 0), (.int .i64 0), (.slice none 0 0)]⟩,
   ⟨none, none, .store 3 (.t 7) (.t 25)⟩]
def r_tell_piecesMay_7 : List O :=
  [⟨(some 26), none, .fa 0 (.t 7)⟩,
   ⟨(some 27), none, .load true 2 (.t 26)⟩,
   ⟨(some 28), none, .call n_span_May [(.t 27)]⟩,
   ⟨(some 29), none, .un .not (.t 28)⟩,
   ⟨(some 30), none, .mov (.t 29)⟩,
   ⟨(some 31), (some (30, false)), .fa 0 (.t 7)⟩,
   ⟨(some 32), (some (30, false)), .fa 0 (.t 31)⟩,
   ⟨(some 33), (some (30, false)), .load false 1 (.t 32)⟩,
   ⟨(some 34), (some (30, false)), .mov (.t 5)⟩,
   ⟨(some 35), (some (30, false)), .bin .neq (.t 33) (.t 34)⟩,
   ⟨(some 36), none, .pick (.t 30) (.c (.bool true)) (.t 35)⟩,
   ⟨(some 37), none, .mov (.t 36)⟩,
   ⟨(some 38), (some (37, false)), .fa 2 (.t 7)⟩,
   ⟨(some 39), (some (37, false)), .load false 1 (.t 38)⟩,
   ⟨(some 40), (some (37, false)), .len (.t 39)⟩,
   ⟨(some 41), (some (37, false)), .bin .lss (.t 40) (.c (.int .i64 1))⟩,
   ⟨(some 42), none, .pick (.t 37) (.c (.bool true)) (.t 41)⟩,
   ⟨(some 43), none, .mov (.t 42)⟩,
   ⟨(some 44), (some (43, false)), .fa 2 (.t 7)⟩,
   ⟨(some 45), (some (43, false)), .load false 1 (.t 44)⟩,
   ⟨(some 46), (some (43, false)), .len (.t 45)⟩,
   ⟨(some 47), (some (43, false)), .bin .gtr (.t 46) (.c (.int .i64 16))⟩,
   ⟨(some 48), none, .pick (.t 43) (.c (.bool true)) (.t 47)⟩]
def r_tell_piecesMay_8 : List O :=
  [⟨(some 4), none, .mov (.c (.bool false))⟩]
def r_tell_piecesMay_9 : List O :=
  [⟨(some 49), none, .fa 2 (.t 7)⟩,
   ⟨(some 50), none, .load false 1 (.t 49)⟩,
   ⟨(some 51), none, .len (.t 50)⟩,
   ⟨(some 52), none, .mov (.c (.int .i64 0))⟩]
def r_tell_piecesMay_10 : List O :=
  [⟨(some 53), none, .bin .lss (.t 52) (.t 51)⟩]
def r_tell_piecesMay_11 : List O :=
  [⟨(some 54), none, .ia 2 (.t 50) (.t 52)⟩,
   ⟨(some 55), none, .load true 2 (.t 54)⟩,
   ⟨(some 9), none, .alloc 54 [(.int .i64 0), (.slice none 0 0)]⟩,
   ⟨none, none, .store 2 (.t 9) (.t 55)⟩]
def r_tell_piecesMay_12 : List O :=
  [⟨(some 56), none, .load true 2 (.t 9)⟩,
   ⟨(some 57), none, .call n_tell_pathMay [(.t 56)]⟩,
   ⟨(some 58), none, .un .not (.t 57)⟩]
def r_tell_piecesMay_13 : List O :=
  [⟨(some 4), none, .mov (.c (.bool false))⟩]
def r_tell_piecesMay_14 : List O :=
  [⟨(some 59), none, .bin .add (.t 52) (.c (.int .i64 1))⟩,
   ⟨(some 52), none, .mov (.t 59)⟩]
def l_tell_piecesMay_0 : C := (.seq (.reg r_tell_piecesMay_10 [2, 7, 20, 21, 22, 50, 51, 52, 53]) (.seq (.cond (.t 53) .skip (.exit 2)) (.seq (.blk 3 (.seq (.reg r_tell_piecesMay_11 [2, 7, 9, 20, 21, 22, 50, 51, 52]) (.seq (.reg r_tell_piecesMay_12 [2, 7, 20, 21, 22, 50, 51, 52, 58]) (.cond (.t 58) (.seq (.reg r_tell_piecesMay_13 [4]) .ret) .skip)))) (.reg r_tell_piecesMay_14 [2, 7, 20, 21, 22, 50, 51, 52]))))
def r_tell_piecesMay_15 : List O :=
  [⟨(some 60), none, .fa 0 (.t 7)⟩,
   ⟨(some 61), none, .fa 1 (.t 60)⟩,
   ⟨(some 62), none, .load false 1 (.t 61)⟩,
   ⟨(some 5), none, .mov (.t 62)⟩]
def r_tell_piecesMay_16 : List O :=
  [⟨(some 63), none, .bin .add (.t 22) (.c (.int .i64 1))⟩,
   ⟨(some 22), none, .mov (.t 63)⟩]
def l_tell_piecesMay_1 : C := (.seq (.reg r_tell_piecesMay_5 [2, 5, 20, 21, 22, 23]) (.seq (.cond (.t 23) .skip (.exit 0)) (.seq (.blk 1 (.seq (.reg r_tell_piecesMay_6 [2, 5, 7, 20, 21, 22]) (.seq (.seq (.reg r_tell_piecesMay_7 [2, 7, 20, 21, 22, 48]) (.cond (.t 48) (.seq (.reg r_tell_piecesMay_8 [4]) .ret) .skip)) (.seq (.seq (.reg r_tell_piecesMay_9 [2, 7, 20, 21, 22, 50, 51, 52]) (.blk 2 (.loop l_tell_piecesMay_0))) (.reg r_tell_piecesMay_15 [2, 5, 20, 21, 22]))))) (.reg r_tell_piecesMay_16 [2, 5, 20, 21, 22]))))
def r_tell_piecesMay_17 : List O :=
  [⟨(some 64), none, .mov (.t 5)⟩,
   ⟨(some 65), none, .fa 1 (.t 2)⟩,
   ⟨(some 66), none, .load false 1 (.t 65)⟩,
   ⟨(some 67), none, .bin .eql (.t 64) (.t 66)⟩,
   ⟨(some 4), none, .mov (.t 67)⟩]
def c_tell_piecesMay : MF := ⟨2, [.t 4], (.seq (.reg r_tell_piecesMay_0 [1, 2]) (.seq (.seq (.reg r_tell_piecesMay_1 [1, 2, 17]) (.cond (.t 17) (.seq (.reg r_tell_piecesMay_2 [4]) .ret) .skip)) (.seq (.reg r_tell_piecesMay_3 [1, 2, 5]) (.seq (.seq (.reg r_tell_piecesMay_4 [2, 5, 20, 21, 22]) (.blk 0 (.loop l_tell_piecesMay_1))) (.seq (.reg r_tell_piecesMay_17 [4]) .ret)))))⟩
theorem ok_tell_piecesMay : okFun Try.prog n_tell_piecesMay c_tell_piecesMay = true := by kernel_rfl

/- tell_vertsMay -/
def n_tell_vertsMay : Nat := 29
def r_tell_vertsMay_0 : List O :=
  [⟨(some 2), none, .mov (.c (.bool false))⟩]
def r_tell_vertsMay_1 : List O :=
  [⟨(some 5), none, .mov (.t 0)⟩,
   ⟨(some 6), none, .len (.t 5)⟩,
   ⟨(some 7), none, .mov (.c (.int .i64 0))⟩]
def r_tell_vertsMay_2 : List O :=
  [⟨(some 8), none, .bin .lss (.t 7) (.t 6)⟩]
def r_tell_vertsMay_3 : List O :=
  [⟨(some 9), none, .mov (.t 7)⟩,
   ⟨(some 10), none, .ia 1 (.t 5) (.t 7)⟩,
   ⟨(some 11), none, .load false 1 (.t 10)⟩,
   ⟨(some 3), none, .mov (.t 9)⟩,
   ⟨(some 4), none, .mov (.t 11)⟩]
def r_tell_vertsMay_4 : List O :=
  [⟨(some 12), none, .mov (.t 4)⟩,
   ⟨(some 13), none, .bin .lss (.t 12) (.c (.int .i64 0))⟩,
   ⟨(some 14), none, .mov (.t 13)⟩,
   ⟨(some 15), (some (14, false)), .mov (.t 4)⟩,
   ⟨(some 16), (some (14, false)), .bin .geq (.t 15) (.c (.int .i64 8))⟩,
   ⟨(some 17), none, .pick (.t 14) (.c (.bool true)) (.t 16)⟩,
   ⟨(some 18), none, .mov (.t 17)⟩,
   ⟨(some 19), (some (18, false)), .mov (.t 3)⟩,
   ⟨(some 20), (some (18, false)), .bin .gtr (.t 19) (.c (.int .i64 0))⟩,
   ⟨(some 21), (some (18, false)), .mov (.t 20)⟩,
   ⟨(some 22), (some (21, true)), .mov (.t 4)⟩,
   ⟨(some 23), (some (21, true)), .mov (.t 0)⟩,
   ⟨(some 24), (some (21, true)), .mov (.t 3)⟩,
   ⟨(some 25), (some (21, true)), .bin .sub (.t 24) (.c (.int .i64 1))⟩,
   ⟨(some 26), (some (21, true)), .ia 1 (.t 23) (.t 25)⟩,
   ⟨(some 27), (some (21, true)), .load false 1 (.t 26)⟩,
   ⟨(some 28), (some (21, true)), .bin .leq (.t 22) (.t 27)⟩,
   ⟨(some 29), (some (18, false)), .pick (.t 21) (.t 28) (.c (.bool false))⟩,
   ⟨(some 30), none, .pick (.t 18) (.c (.bool true)) (.t 29)⟩]
def r_tell_vertsMay_5 : List O :=
  [⟨(some 2), none, .mov (.c (.bool false))⟩]
def r_tell_vertsMay_6 : List O :=
  [⟨(some 31), none, .bin .add (.t 7) (.c (.int .i64 1))⟩,
   ⟨(some 7), none, .mov (.t 31)⟩]
def l_tell_vertsMay_0 : C := (.seq (.reg r_tell_vertsMay_2 [0, 5, 6, 7, 8]) (.seq (.cond (.t 8) .skip (.exit 0)) (.seq (.blk 1 (.seq (.reg r_tell_vertsMay_3 [0, 3, 4, 5, 6, 7]) (.seq (.reg r_tell_vertsMay_4 [0, 5, 6, 7, 30]) (.cond (.t 30) (.seq (.reg r_tell_vertsMay_5 [2]) .ret) .skip)))) (.reg r_tell_vertsMay_6 [0, 5, 6, 7]))))
def r_tell_vertsMay_7 : List O :=
  [⟨(some 32), none, .mov (.t 0)⟩,
   ⟨(some 33), none, .len (.t 32)⟩,
   ⟨(some 34), none, .bin .gtr (.t 33) (.c (.int .i64 0))⟩,
   ⟨(some 2), none, .mov (.t 34)⟩]
def c_tell_vertsMay : MF := ⟨1, [.t 2], (.seq (.reg r_tell_vertsMay_0 [0]) (.seq (.seq (.reg r_tell_vertsMay_1 [0, 5, 6, 7]) (.blk 0 (.loop l_tell_vertsMay_0))) (.seq (.reg r_tell_vertsMay_7 [2]) .ret)))⟩
theorem ok_tell_vertsMay : okFun Try.prog n_tell_vertsMay c_tell_vertsMay = true := by kernel_rfl

/- tell_May -/
def n_tell_May : Nat := 12
def r_tell_May_0 : List O :=
  [⟨(some 1), none, .box 10 (.t 0)⟩,
   ⟨(some 2), none, .mov (.c (.bool false))⟩]
def r_tell_May_1 : List O :=
  [⟨(some 3), none, .load true 10 (.t 1)⟩,
   ⟨(some 4), none, .call n_tell_isPlain [(.t 3)]⟩,
   ⟨(some 5), none, .un .not (.t 4)⟩]
def r_tell_May_2 : List O :=
  [⟨(some 2), none, .mov (.c (.bool false))⟩]
def r_tell_May_3 : List O :=
  [⟨(some 6), none, .fa 4 (.t 1)⟩,
   ⟨(some 7), none, .load false 1 (.t 6)⟩]
def r_tell_May_4 : List O :=
  [⟨(some 9), none, .bin .eql (.t 7) (.c (.int .i64 1))⟩,
   ⟨(some 8), none, .mov (.t 9)⟩]
def r_tell_May_5 : List O :=
  [⟨(some 10), none, .fa 5 (.t 1)⟩,
   ⟨(some 11), none, .load false 1 (.t 10)⟩,
   ⟨(some 12), none, .bin .geq (.t 11) (.c (.int .i64 1))⟩,
   ⟨(some 13), none, .mov (.t 12)⟩,
   ⟨(some 14), (some (13, true)), .fa 5 (.t 1)⟩,
   ⟨(some 15), (some (13, true)), .load false 1 (.t 14)⟩,
   ⟨(some 16), (some (13, true)), .bin .leq (.t 15) (.c (.int .i64 9))⟩,
   ⟨(some 17), none, .pick (.t 13) (.t 16) (.c (.bool false))⟩,
   ⟨(some 2), none, .mov (.t 17)⟩]
def r_tell_May_6 : List O :=
  [⟨(some 19), none, .bin .eql (.t 7) (.c (.int .i64 2))⟩,
   ⟨(some 18), none, .mov (.t 19)⟩]
def r_tell_May_7 : List O :=
  [⟨(some 20), none, .fa 6 (.t 1)⟩,
   ⟨(some 21), none, .load false 1 (.t 20)⟩,
   ⟨(some 22), none, .bin .geq (.t 21) (.c (.int .i64 1))⟩,
   ⟨(some 23), none, .mov (.t 22)⟩,
   ⟨(some 24), (some (23, true)), .fa 6 (.t 1)⟩,
   ⟨(some 25), (some (23, true)), .load false 1 (.t 24)⟩,
   ⟨(some 26), (some (23, true)), .bin .leq (.t 25) (.c (.int .i64 1048576))⟩,
   ⟨(some 27), none, .pick (.t 23) (.t 26) (.c (.bool false))⟩,
   ⟨(some 28), none, .mov (.t 27)⟩,
   ⟨(some 29), (some (28, true)), .fa 7 (.t 1)⟩,
   ⟨(some 30), (some (28, true)), .load false 1 (.t 29)⟩,
   ⟨(some 31), (some (28, true)), .bin .gtr (.t 30) (.c (.int .i64 0))⟩,
   ⟨(some 32), none, .pick (.t 28) (.t 31) (.c (.bool false))⟩,
   ⟨(some 33), none, .mov (.t 32)⟩,
   ⟨(some 34), (some (33, true)), .fa 7 (.t 1)⟩,
   ⟨(some 35), (some (33, true)), .load false 1 (.t 34)⟩,
   ⟨(some 36), (some (33, true)), .call n_rate_Is [(.t 35)]⟩,
   ⟨(some 37), none, .pick (.t 33) (.t 36) (.c (.bool false))⟩,
   ⟨(some 38), none, .mov (.t 37)⟩,
   ⟨(some 39), (some (38, true)), .fa 0 (.t 1)⟩,
   ⟨(some 40), (some (38, true)), .load true 2 (.t 39)⟩,
   ⟨(some 41), (some (38, true)), .call n_span_May [(.t 40)]⟩,
   ⟨(some 42), none, .pick (.t 38) (.t 41) (.c (.bool false))⟩,
   ⟨(some 43), none, .mov (.t 42)⟩,
   ⟨(some 44), (some (43, true)), .fa 0 (.t 1)⟩,
   ⟨(some 45), (some (43, true)), .load true 2 (.t 44)⟩,
   ⟨(some 46), (some (43, true)), .fa 9 (.t 1)⟩,
   ⟨(some 47), (some (43, true)), .load false 1 (.t 46)⟩,
   ⟨(some 48), (some (43, true)), .call n_tell_piecesMay [(.t 45), (.t 47)]⟩,
   ⟨(some 49), none, .pick (.t 43) (.t 48) (.c (.bool false))⟩,
   ⟨(some 2), none, .mov (.t 49)⟩]
def r_tell_May_8 : List O :=
  [⟨(some 51), none, .bin .eql (.t 7) (.c (.int .i64 3))⟩,
   ⟨(some 50), none, .mov (.t 51)⟩]
def r_tell_May_9 : List O :=
  [⟨(some 52), none, .fa 2 (.t 1)⟩,
   ⟨(some 53), none, .fa 0 (.t 52)⟩,
   ⟨(some 54), none, .load false 1 (.t 53)⟩,
   ⟨(some 55), none, .bin .geq (.t 54) (.c (.int .i64 0))⟩,
   ⟨(some 56), none, .mov (.t 55)⟩,
   ⟨(some 57), (some (56, true)), .fa 2 (.t 1)⟩,
   ⟨(some 58), (some (56, true)), .fa 0 (.t 57)⟩,
   ⟨(some 59), (some (56, true)), .load false 1 (.t 58)⟩,
   ⟨(some 60), (some (56, true)), .bin .lss (.t 59) (.c (.int .i64 4096))⟩,
   ⟨(some 61), none, .pick (.t 56) (.t 60) (.c (.bool false))⟩,
   ⟨(some 62), none, .mov (.t 61)⟩,
   ⟨(some 63), (some (62, true)), .fa 2 (.t 1)⟩,
   ⟨(some 64), (some (62, true)), .fa 1 (.t 63)⟩,
   ⟨(some 65), (some (62, true)), .load false 1 (.t 64)⟩,
   ⟨(some 66), (some (62, true)), .call n_tell_vertsMay [(.t 65)]⟩,
   ⟨(some 67), none, .pick (.t 62) (.t 66) (.c (.bool false))⟩,
   ⟨(some 2), none, .mov (.t 67)⟩]
def r_tell_May_10 : List O :=
  [⟨(some 69), none, .bin .eql (.t 7) (.c (.int .i64 5))⟩,
   ⟨(some 68), none, .mov (.t 69)⟩]
def r_tell_May_11 : List O :=
  [⟨(some 70), none, .fa 8 (.t 1)⟩,
   ⟨(some 71), none, .load false 1 (.t 70)⟩,
   ⟨(some 72), none, .call n_rate_Is [(.t 71)]⟩,
   ⟨(some 2), none, .mov (.t 72)⟩]
def r_tell_May_12 : List O :=
  [⟨(some 73), none, .fa 4 (.t 1)⟩,
   ⟨(some 74), none, .load false 1 (.t 73)⟩,
   ⟨(some 75), none, .bin .eql (.t 74) (.c (.int .i64 4))⟩,
   ⟨(some 2), none, .mov (.t 75)⟩]
def c_tell_May : MF := ⟨1, [.t 2], (.seq (.reg r_tell_May_0 [1]) (.seq (.seq (.reg r_tell_May_1 [1, 5]) (.cond (.t 5) (.seq (.reg r_tell_May_2 [2]) .ret) .skip)) (.seq (.seq (.reg r_tell_May_3 [1, 7]) (.blk 0 (.seq (.reg r_tell_May_4 [1, 7, 8]) (.cond (.t 8) (.seq (.reg r_tell_May_5 [2]) .ret) (.seq (.reg r_tell_May_6 [1, 7, 18]) (.cond (.t 18) (.seq (.reg r_tell_May_7 [2]) .ret) (.seq (.reg r_tell_May_8 [1, 7, 50]) (.cond (.t 50) (.seq (.reg r_tell_May_9 [2]) .ret) (.seq (.reg r_tell_May_10 [1, 68]) (.cond (.t 68) (.seq (.reg r_tell_May_11 [2]) .ret) .skip)))))))))) (.seq (.reg r_tell_May_12 [2]) .ret))))⟩
theorem ok_tell_May : okFun Try.prog n_tell_May c_tell_May = true := by kernel_rfl

/- tell_counted -/
def n_tell_counted : Nat := 22
def r_tell_counted_0 : List O :=
  [⟨(some 2), none, .mov (.c (.slice none 0 0))⟩]
def r_tell_counted_1 : List O :=
  [⟨(some 3), none, .mov (.t 0)⟩,
   ⟨(some 4), none, .len (.t 3)⟩,
   ⟨(some 5), none, .bsl 1 [(.int .i64 0)] 1 [(0, (.t 4))]⟩,
   ⟨(some 6), none, .mov (.t 0)⟩,
   ⟨(some 7), none, .app 3 1 8 (.t 5) (.t 6)⟩,
   ⟨(some 2), none, .mov (.t 7)⟩]
def c_tell_counted : MF := ⟨1, [.t 2], (.seq (.reg r_tell_counted_0 [0]) (.seq (.reg r_tell_counted_1 [2]) .ret))⟩
theorem ok_tell_counted : okFun Try.prog n_tell_counted c_tell_counted = true := by kernel_rfl

/- tell_grant -/
def n_tell_grant : Nat := 21
def r_tell_grant_0 : List O :=
  [⟨(some 1), none, .box 10 (.t 0)⟩,
   ⟨(some 2), none, .mov (.c (.slice none 0 0))⟩]
def r_tell_grant_1 : List O :=
  [⟨(some 8), none, .fa 6 (.t 1)⟩,
   ⟨(some 9), none, .load false 1 (.t 8)⟩,
   ⟨(some 10), none, .fa 7 (.t 1)⟩,
   ⟨(some 11), none, .load false 1 (.t 10)⟩,
   ⟨(some 12), none, .fa 0 (.t 1)⟩,
   ⟨(some 13), none, .fa 0 (.t 12)⟩,
   ⟨(some 14), none, .load false 1 (.t 13)⟩,
   ⟨(some 15), none, .fa 0 (.t 1)⟩,
   ⟨(some 16), none, .fa 1 (.t 15)⟩,
   ⟨(some 17), none, .load false 1 (.t 16)⟩,
   ⟨(some 18), none, .fa 9 (.t 1)⟩,
   ⟨(some 19), none, .load false 1 (.t 18)⟩,
   ⟨(some 20), none, .len (.t 19)⟩,
   ⟨(some 21), none, .bsl 1 [(.int .i64 0)] 5 [(0, (.t 9)), (1, (.t 11)), (2, (.t 14)), (3, (.t 17)), (4, (.t 20))]⟩,
   ⟨(some 3), none, .mov (.t 21)⟩]
def r_tell_grant_2 : List O :=
  [⟨(some 22), none, .fa 9 (.t 1)⟩,
   ⟨(some 23), none, .load false 1 (.t 22)⟩,
   ⟨(some 24), none, .len (.t 23)⟩,
   ⟨(some 25), none, .mov (.c (.int .i64 0))⟩]
def r_tell_grant_3 : List O :=
  [⟨(some 26), none, .bin .lss (.t 25) (.t 24)⟩]
def r_tell_grant_4 : List O :=
  [⟨(some 27), none, .ia 3 (.t 23) (.t 25)⟩,
   ⟨(some 28), none, .load true 3 (.t 27)⟩,
   ⟨(some 5), none, .alloc 52 [(.int .i64 0), (.int .i64 0), (.slice none 0 0)]⟩,
   ⟨none, none, .store 3 (.t 5) (.t 28)⟩]
def r_tell_grant_5 : List O :=
  [⟨(some 29), none, .mov (.t 3)⟩,
   ⟨(some 30), none, .fa 0 (.t 5)⟩,
   ⟨(some 31), none, .fa 0 (.t 30)⟩,
   ⟨(some 32), none, .load false 1 (.t 31)⟩,
   ⟨(some 33), none, .fa 0 (.t 5)⟩,
   ⟨(some 34), none, .fa 1 (.t 33)⟩,
   ⟨(some 35), none, .load false 1 (.t 34)⟩,
   ⟨(some 36), none, .fa 2 (.t 5)⟩,
   ⟨(some 37), none, .load false 1 (.t 36)⟩,
   ⟨(some 38), none, .len (.t 37)⟩,
   ⟨(some 39), none, .bsl 1 [(.int .i64 0)] 3 [(0, (.t 32)), (1, (.t 35)), (2, (.t 38))]⟩,
   ⟨(some 40), none, .app 3 1 8 (.t 29) (.t 39)⟩,
   ⟨(some 3), none, .mov (.t 40)⟩]
def r_tell_grant_6 : List O :=
  [⟨(some 41), none, .fa 2 (.t 5)⟩,
   ⟨(some 42), none, .load false 1 (.t 41)⟩,
   ⟨(some 43), none, .len (.t 42)⟩,
   ⟨(some 44), none, .mov (.c (.int .i64 0))⟩]
def r_tell_grant_7 : List O :=
  [⟨(some 45), none, .bin .lss (.t 44) (.t 43)⟩]
def r_tell_grant_8 : List O :=
  [⟨(some 46), none, .ia 2 (.t 42) (.t 44)⟩,
   ⟨(some 47), none, .load true 2 (.t 46)⟩,
   ⟨(some 7), none, .alloc 54 [(.int .i64 0), (.slice none 0 0)]⟩,
   ⟨none, none, .store 2 (.t 7) (.t 47)⟩]
def r_tell_grant_9 : List D :=
  [⟨⟨(some 48), none, .mov (.t 3)⟩, []⟩,
   ⟨⟨(some 49), none, .fa 0 (.t 7)⟩, []⟩,
   ⟨⟨(some 50), none, .load false 1 (.t 49)⟩, []⟩,
   ⟨⟨(some 51), none, .bsl 1 [(.int .i64 0)] 1 [(0, (.t 50))]⟩, []⟩,
   ⟨⟨(some 52), none, .app 3 1 8 (.t 48) (.t 51)⟩, []⟩,
   ⟨⟨(some 53), none, .fa 1 (.t 7)⟩, []⟩,
   ⟨⟨(some 54), none, .load false 1 (.t 53)⟩, [3, 4]⟩,
   ⟨⟨(some 55), none, .call n_tell_counted [(.t 54)]⟩, []⟩,
   ⟨⟨(some 56), none, .app 3 1 8 (.t 52) (.t 55)⟩, []⟩,
   ⟨⟨(some 3), none, .mov (.t 56)⟩, []⟩]
def r_tell_grant_10 : List O :=
  [⟨(some 57), none, .bin .add (.t 44) (.c (.int .i64 1))⟩,
   ⟨(some 44), none, .mov (.t 57)⟩]
def l_tell_grant_0 : C := (.seq (.reg r_tell_grant_7 [3, 23, 24, 25, 42, 43, 44, 45]) (.seq (.cond (.t 45) .skip (.exit 2)) (.seq (.blk 3 (.seq (.reg r_tell_grant_8 [3, 7, 23, 24, 25, 42, 43, 44]) (.dreg r_tell_grant_9 [3, 23, 24, 25, 42, 43, 44]))) (.reg r_tell_grant_10 [3, 23, 24, 25, 42, 43, 44]))))
def r_tell_grant_11 : List O :=
  [⟨(some 58), none, .bin .add (.t 25) (.c (.int .i64 1))⟩,
   ⟨(some 25), none, .mov (.t 58)⟩]
def l_tell_grant_1 : C := (.seq (.reg r_tell_grant_3 [3, 23, 24, 25, 26]) (.seq (.cond (.t 26) .skip (.exit 0)) (.seq (.blk 1 (.seq (.reg r_tell_grant_4 [3, 5, 23, 24, 25]) (.seq (.reg r_tell_grant_5 [3, 5, 23, 24, 25]) (.seq (.reg r_tell_grant_6 [3, 23, 24, 25, 42, 43, 44]) (.blk 2 (.loop l_tell_grant_0)))))) (.reg r_tell_grant_11 [3, 23, 24, 25]))))
def r_tell_grant_12 : List O :=
  [⟨(some 59), none, .mov (.t 3)⟩,
   ⟨(some 2), none, .mov (.t 59)⟩]
def c_tell_grant : MF := ⟨1, [.t 2], (.seq (.reg r_tell_grant_0 [1]) (.seq (.reg r_tell_grant_1 [1, 3]) (.seq (.seq (.reg r_tell_grant_2 [3, 23, 24, 25]) (.blk 0 (.loop l_tell_grant_1))) (.seq (.reg r_tell_grant_12 [2]) .ret))))⟩
theorem ok_tell_grant : okFun Try.prog n_tell_grant c_tell_grant = true := by kernel_rfl

/- math_bits_Len64 -/
def n_math_bits_Len64 : Nat := 60
def r_math_bits_Len64_0 : List O :=
  [⟨(some 2), none, .mov (.c (.int .i64 0))⟩]
def r_math_bits_Len64_1 : List O :=
  [⟨(some 3), none, .mov (.t 0)⟩,
   ⟨(some 4), none, .bin .geq (.t 3) (.c (.int .u64 4294967296))⟩]
def r_math_bits_Len64_2 : List O :=
  [⟨(some 5), none, .mov (.t 0)⟩,
   ⟨(some 6), none, .bin .shr (.t 5) (.c (.int .u64 32))⟩,
   ⟨(some 0), none, .mov (.t 6)⟩]
def r_math_bits_Len64_3 : List O :=
  [⟨(some 2), none, .mov (.c (.int .i64 32))⟩]
def r_math_bits_Len64_4 : List O :=
  [⟨(some 7), none, .mov (.t 0)⟩,
   ⟨(some 8), none, .bin .geq (.t 7) (.c (.int .u64 65536))⟩]
def r_math_bits_Len64_5 : List O :=
  [⟨(some 9), none, .mov (.t 0)⟩,
   ⟨(some 10), none, .bin .shr (.t 9) (.c (.int .u64 16))⟩,
   ⟨(some 0), none, .mov (.t 10)⟩]
def r_math_bits_Len64_6 : List O :=
  [⟨(some 11), none, .mov (.t 2)⟩,
   ⟨(some 12), none, .bin .add (.t 11) (.c (.int .i64 16))⟩,
   ⟨(some 2), none, .mov (.t 12)⟩]
def r_math_bits_Len64_7 : List O :=
  [⟨(some 13), none, .mov (.t 0)⟩,
   ⟨(some 14), none, .bin .geq (.t 13) (.c (.int .u64 256))⟩]
def r_math_bits_Len64_8 : List O :=
  [⟨(some 15), none, .mov (.t 0)⟩,
   ⟨(some 16), none, .bin .shr (.t 15) (.c (.int .u64 8))⟩,
   ⟨(some 0), none, .mov (.t 16)⟩]
def r_math_bits_Len64_9 : List O :=
  [⟨(some 17), none, .mov (.t 2)⟩,
   ⟨(some 18), none, .bin .add (.t 17) (.c (.int .i64 8))⟩,
   ⟨(some 2), none, .mov (.t 18)⟩]
def r_math_bits_Len64_10 : List O :=
  [⟨(some 19), none, .mov (.t 2)⟩,
   ⟨(some 20), none, .mov (.t 0)⟩,
   ⟨(some 21), none, .conv .u8 (.t 20)⟩,
   ⟨(some 22), none, .idx (.c (.string ⟨#[0, 1, 2, 2, 3, 3, 3, 3, 4, 4, 4, 4, 4, 4, 4, 4, 5, 5, 5, 5, 5, 5, 5, 5, 5, 5, 5, 5, 5, 5, 5, 5, 6, 6, 6, 6, 6, 6, 6, 6, 6, 6, 6, 6, 6, 6, 6, 6, 6, 6, 6, 6, 6, 6, 6, 6, 6, 6, 6, 6, 6, 6, 6, 6, 7, 7, 7, 7, 7, 7, 7, 7, 7, 7, 7, 7, 7, 7, 7, 7, 7, 7, 7, 7, 7, 7, 7, 7, 7, 7, 7, 7, 7, 7, 7, 7, 7, 7, 7, 7, 7, 7, 7, 7, 7, 7, 7, 7, 7, 7, 7, 7, 7, 7, 7, 7, 7, 7, 7, 7, 7, 7, 7, 7, 7, 7, 7, 7, 8, 8, 8, 8, 8, 8, 8, 8, 8, 8, 8, 8, 8, 8, 8, 8, 8, 8, 8, 8, 8, 8, 8, 8, 8, 8, 8, 8, 8, 8, 8, 8, 8, 8, 8, 8, 8, 8, 8, 8, 8, 8, 8, 8, 8, 8, 8, 8, 8, 8, 8, 8, 8, 8, 8, 8, 8, 8, 8, 8, 8, 8, 8, 8, 8, 8, 8, 8, 8, 8, 8, 8, 8, 8, 8, 8, 8, 8, 8, 8, 8, 8, 8, 8, 8, 8, 8, 8, 8, 8, 8, 8, 8, 8, 8, 8, 8, 8, 8, 8, 8, 8, 8, 8, 8, 8, 8, 8, 8, 8, 8, 8, 8, 8, 8, 8, 8, 8, 8, 8, 8, 8, 8, 8, 8, 8, 8, 8]⟩)) (.t 21)⟩,
   ⟨(some 23), none, .conv .i64 (.t 22)⟩,
   ⟨(some 24), none, .bin .add (.t 19) (.t 23)⟩,
   ⟨(some 2), none, .mov (.t 24)⟩]
def c_math_bits_Len64 : MF := ⟨1, [.t 2], (.seq (.reg r_math_bits_Len64_0 [0, 2]) (.seq (.seq (.reg r_math_bits_Len64_1 [0, 2, 4]) (.cond (.t 4) (.seq (.reg r_math_bits_Len64_2 [0]) (.reg r_math_bits_Len64_3 [0, 2])) .skip)) (.seq (.seq (.reg r_math_bits_Len64_4 [0, 2, 8]) (.cond (.t 8) (.seq (.reg r_math_bits_Len64_5 [0, 2]) (.reg r_math_bits_Len64_6 [0, 2])) .skip)) (.seq (.seq (.reg r_math_bits_Len64_7 [0, 2, 14]) (.cond (.t 14) (.seq (.reg r_math_bits_Len64_8 [0, 2]) (.reg r_math_bits_Len64_9 [0, 2])) .skip)) (.seq (.reg r_math_bits_Len64_10 [2]) .ret)))))⟩
theorem ok_math_bits_Len64 : okFun Try.prog n_math_bits_Len64 c_math_bits_Len64 = true := by kernel_rfl

/- word_size -/
def n_word_size : Nat := 41
def r_word_size_0 : List O :=
  [⟨(some 2), none, .mov (.c (.int .i64 0))⟩]
def r_word_size_1 : List O :=
  [⟨(some 3), none, .mov (.t 0)⟩,
   ⟨(some 4), none, .conv .u64 (.t 3)⟩,
   ⟨(some 5), none, .call n_math_bits_Len64 [(.t 4)]⟩,
   ⟨(some 6), none, .bin .add (.t 5) (.c (.int .i64 7))⟩,
   ⟨(some 7), none, .bin .quo (.t 6) (.c (.int .i64 8))⟩,
   ⟨(some 2), none, .mov (.t 7)⟩]
def c_word_size : MF := ⟨1, [.t 2], (.seq (.reg r_word_size_0 [0]) (.seq (.reg r_word_size_1 [2]) .ret))⟩
theorem ok_word_size : okFun Try.prog n_word_size c_word_size = true := by kernel_rfl

/- internal_abi_NoEscape -/
def n_internal_abi_NoEscape : Nat := 64

/- strings_Builder_copyCheck -/
def n_strings_Builder_copyCheck : Nat := 61
def r_strings_Builder_copyCheck_0 : List O :=
  [⟨(some 2), none, .mov (.t 0)⟩,
   ⟨(some 3), none, .nilck (.t 2)⟩,
   ⟨(some 4), none, .fa 0 (.t 3)⟩,
   ⟨(some 5), none, .load false 1 (.t 4)⟩,
   ⟨(some 6), none, .eqp false (.t 5) (.c (.pointer none))⟩]
def r_strings_Builder_copyCheck_1 : List O :=
  [⟨(some 7), none, .mov (.t 0)⟩,
   ⟨(some 8), none, .mov (.t 0)⟩,
   ⟨(some 9), none, .p2u (.t 8)⟩,
   ⟨(some 10), none, .noesc n_internal_abi_NoEscape (.t 9)⟩,
   ⟨(some 11), none, .u2p 77 2 (.t 10)⟩,
   ⟨(some 12), none, .nilck (.t 7)⟩,
   ⟨(some 13), none, .fa 0 (.t 12)⟩,
   ⟨none, none, .store 1 (.t 13) (.t 11)⟩]
def r_strings_Builder_copyCheck_2 : List O :=
  [⟨(some 14), none, .mov (.t 0)⟩,
   ⟨(some 15), none, .nilck (.t 14)⟩,
   ⟨(some 16), none, .fa 0 (.t 15)⟩,
   ⟨(some 17), none, .load false 1 (.t 16)⟩,
   ⟨(some 18), none, .mov (.t 0)⟩,
   ⟨(some 19), none, .eqp true (.t 17) (.t 18)⟩]
def c_strings_Builder_copyCheck : MF := ⟨1, [], (.seq (.reg r_strings_Builder_copyCheck_0 [0, 6]) (.cond (.t 6) (.reg r_strings_Builder_copyCheck_1 []) (.seq (.reg r_strings_Builder_copyCheck_2 [19]) (.cond (.t 19) .dead .skip))))⟩
theorem ok_strings_Builder_copyCheck : okFun Try.prog n_strings_Builder_copyCheck c_strings_Builder_copyCheck = true := by kernel_rfl

/- strings_Builder_WriteByte -/
def n_strings_Builder_WriteByte : Nat := 42
def r_strings_Builder_WriteByte_0 : List O :=
  [⟨(some 4), none, .mov (.c .nilIface)⟩]
def r_strings_Builder_WriteByte_1 : List O :=
  [⟨(some 5), none, .mov (.t 0)⟩,
   ⟨(some 6), none, .call n_strings_Builder_copyCheck [(.t 5)]⟩]
def r_strings_Builder_WriteByte_2 : List O :=
  [⟨(some 7), none, .mov (.t 0)⟩,
   ⟨(some 8), none, .mov (.t 0)⟩,
   ⟨(some 9), none, .nilck (.t 8)⟩,
   ⟨(some 10), none, .fa 1 (.t 9)⟩,
   ⟨(some 11), none, .load false 1 (.t 10)⟩,
   ⟨(some 12), none, .mov (.t 1)⟩,
   ⟨(some 13), none, .bsl 1 [(.int .u8 0)] 1 [(0, (.t 12))]⟩,
   ⟨(some 14), none, .app 5 1 1 (.t 11) (.t 13)⟩,
   ⟨(some 15), none, .nilck (.t 7)⟩,
   ⟨(some 16), none, .fa 1 (.t 15)⟩,
   ⟨none, none, .store 1 (.t 16) (.t 14)⟩]
def r_strings_Builder_WriteByte_3 : List O :=
  [⟨(some 4), none, .mov (.c .nilIface)⟩]
def c_strings_Builder_WriteByte : MF := ⟨2, [.t 4], (.seq (.reg r_strings_Builder_WriteByte_0 [0, 1]) (.seq (.reg r_strings_Builder_WriteByte_1 [0, 1]) (.seq (.reg r_strings_Builder_WriteByte_2 []) (.seq (.reg r_strings_Builder_WriteByte_3 [4]) .ret))))⟩
theorem ok_strings_Builder_WriteByte : okFun Try.prog n_strings_Builder_WriteByte c_strings_Builder_WriteByte = true := by kernel_rfl

/- strings_Builder_String -/
def n_strings_Builder_String : Nat := 43
def r_strings_Builder_String_0 : List O :=
  [⟨(some 2), none, .mov (.c (.string .empty))⟩]
def r_strings_Builder_String_1 : List D :=
  [⟨⟨(some 3), none, .mov (.t 0)⟩, []⟩,
   ⟨⟨(some 4), none, .nilck (.t 3)⟩, []⟩,
   ⟨⟨(some 5), none, .fa 1 (.t 4)⟩, []⟩,
   ⟨⟨(some 6), none, .load false 1 (.t 5)⟩, []⟩,
   ⟨⟨(some 7), none, .usd (.t 6)⟩, []⟩,
   ⟨⟨(some 8), none, .mov (.t 0)⟩, []⟩,
   ⟨⟨(some 9), none, .nilck (.t 8)⟩, []⟩,
   ⟨⟨(some 10), none, .fa 1 (.t 9)⟩, []⟩,
   ⟨⟨(some 11), none, .load false 1 (.t 10)⟩, []⟩,
   ⟨⟨(some 12), none, .len (.t 11)⟩, []⟩,
   ⟨⟨(some 13), none, .uss 5 (.t 7) (.t 12)⟩, []⟩,
   ⟨⟨(some 2), none, .mov (.t 13)⟩, []⟩]
def c_strings_Builder_String : MF := ⟨1, [.t 2], (.seq (.reg r_strings_Builder_String_0 [0]) (.seq (.dreg r_strings_Builder_String_1 [2]) .ret))⟩
theorem ok_strings_Builder_String : okFun Try.prog n_strings_Builder_String c_strings_Builder_String = true := by kernel_rfl

/- word_Put -/
def n_word_Put : Nat := 23
def r_word_Put_0 : List O :=
  [⟨(some 2), none, .mov (.c (.string .empty))⟩,
   ⟨(some 3), none, .mov (.c (.int .i64 0))⟩]
def r_word_Put_1 : List O :=
  [⟨(some 4), none, .alloc 77 [(.pointer none), (.slice none 0 0)]⟩]
def r_word_Put_2 : List O :=
  [⟨(some 9), none, .mov (.t 0)⟩,
   ⟨(some 10), none, .len (.t 9)⟩,
   ⟨(some 11), none, .mov (.c (.int .i64 0))⟩]
def r_word_Put_3 : List O :=
  [⟨(some 12), none, .bin .lss (.t 11) (.t 10)⟩]
def r_word_Put_4 : List O :=
  [⟨(some 13), none, .ia 1 (.t 9) (.t 11)⟩,
   ⟨(some 14), none, .load false 1 (.t 13)⟩,
   ⟨(some 6), none, .mov (.t 14)⟩]
def r_word_Put_5 : List O :=
  [⟨(some 15), none, .mov (.t 6)⟩,
   ⟨(some 16), none, .call n_rate_Is [(.t 15)]⟩,
   ⟨(some 17), none, .un .not (.t 16)⟩]
def r_word_Put_6 : List O :=
  [⟨(some 2), none, .mov (.c (.string .empty))⟩,
   ⟨(some 3), none, .mov (.c (.int .i64 300))⟩]
def r_word_Put_7 : List O :=
  [⟨(some 18), none, .mov (.t 6)⟩,
   ⟨(some 19), none, .call n_word_size [(.t 18)]⟩,
   ⟨(some 7), none, .mov (.t 19)⟩]
def r_word_Put_8 : List O :=
  [⟨(some 20), none, .mov (.t 7)⟩,
   ⟨(some 21), none, .conv .u8 (.t 20)⟩,
   ⟨(some 22), none, .call n_strings_Builder_WriteByte [(.t 4), (.t 21)]⟩]
def r_word_Put_9 : List O :=
  [⟨(some 23), none, .mov (.t 7)⟩,
   ⟨(some 24), none, .bin .sub (.t 23) (.c (.int .i64 1))⟩,
   ⟨(some 8), none, .mov (.t 24)⟩]
def r_word_Put_10 : List O :=
  [⟨(some 25), none, .mov (.t 8)⟩,
   ⟨(some 26), none, .bin .geq (.t 25) (.c (.int .i64 0))⟩]
def r_word_Put_11 : List O :=
  [⟨(some 29), none, .mov (.t 6)⟩,
   ⟨(some 30), none, .mov (.t 8)⟩,
   ⟨(some 31), none, .bin .mul (.c (.int .i64 8)) (.t 30)⟩,
   ⟨(some 32), none, .bin .shr (.t 29) (.t 31)⟩,
   ⟨(some 33), none, .conv .u8 (.t 32)⟩,
   ⟨(some 34), none, .call n_strings_Builder_WriteByte [(.t 4), (.t 33)]⟩]
def r_word_Put_12 : List O :=
  [⟨(some 27), none, .mov (.t 8)⟩,
   ⟨(some 28), none, .bin .sub (.t 27) (.c (.int .i64 1))⟩,
   ⟨(some 8), none, .mov (.t 28)⟩]
def l_word_Put_0 : C := (.seq (.seq (.reg r_word_Put_10 [4, 6, 8, 9, 10, 11, 26]) (.cond (.t 26) .skip (.exit 2))) (.seq (.blk 3 (.reg r_word_Put_11 [4, 6, 8, 9, 10, 11])) (.reg r_word_Put_12 [4, 6, 8, 9, 10, 11])))
def r_word_Put_13 : List O :=
  [⟨(some 35), none, .bin .add (.t 11) (.c (.int .i64 1))⟩,
   ⟨(some 11), none, .mov (.t 35)⟩]
def l_word_Put_1 : C := (.seq (.reg r_word_Put_3 [4, 9, 10, 11, 12]) (.seq (.cond (.t 12) .skip (.exit 0)) (.seq (.blk 1 (.seq (.reg r_word_Put_4 [4, 6, 9, 10, 11]) (.seq (.seq (.reg r_word_Put_5 [4, 6, 9, 10, 11, 17]) (.cond (.t 17) (.seq (.reg r_word_Put_6 [2, 3]) .ret) .skip)) (.seq (.reg r_word_Put_7 [4, 6, 7, 9, 10, 11]) (.seq (.reg r_word_Put_8 [4, 6, 7, 9, 10, 11]) (.seq (.reg r_word_Put_9 [4, 6, 8, 9, 10, 11]) (.blk 2 (.loop l_word_Put_0)))))))) (.reg r_word_Put_13 [4, 9, 10, 11]))))
def r_word_Put_14 : List O :=
  [⟨(some 36), none, .call n_strings_Builder_String [(.t 4)]⟩,
   ⟨(some 2), none, .mov (.t 36)⟩,
   ⟨(some 3), none, .mov (.c (.int .i64 0))⟩]
def c_word_Put : MF := ⟨1, [.t 2, .t 3], (.seq (.reg r_word_Put_0 [0]) (.seq (.reg r_word_Put_1 [0, 4]) (.seq (.seq (.reg r_word_Put_2 [4, 9, 10, 11]) (.blk 0 (.loop l_word_Put_1))) (.seq (.reg r_word_Put_14 [2, 3]) .ret))))⟩
theorem ok_word_Put : okFun Try.prog n_word_Put c_word_Put = true := by kernel_rfl

/- tell_Write -/
def n_tell_Write : Nat := 9
def r_tell_Write_0 : List O :=
  [⟨(some 1), none, .box 10 (.t 0)⟩,
   ⟨(some 2), none, .mov (.c (.string .empty))⟩,
   ⟨(some 3), none, .mov (.c (.int .i64 0))⟩]
def r_tell_Write_1 : List O :=
  [⟨(some 7), none, .load true 10 (.t 1)⟩,
   ⟨(some 8), none, .call n_tell_May [(.t 7)]⟩,
   ⟨(some 9), none, .un .not (.t 8)⟩]
def r_tell_Write_2 : List O :=
  [⟨(some 2), none, .mov (.c (.string .empty))⟩,
   ⟨(some 3), none, .mov (.c (.int .i64 2300))⟩]
def r_tell_Write_3 : List O :=
  [⟨(some 10), none, .fa 4 (.t 1)⟩,
   ⟨(some 11), none, .load false 1 (.t 10)⟩,
   ⟨(some 12), none, .bsl 1 [(.int .i64 0)] 1 [(0, (.t 11))]⟩,
   ⟨(some 4), none, .mov (.t 12)⟩]
def r_tell_Write_4 : List O :=
  [⟨(some 13), none, .fa 4 (.t 1)⟩,
   ⟨(some 14), none, .load false 1 (.t 13)⟩]
def r_tell_Write_5 : List O :=
  [⟨(some 16), none, .bin .eql (.t 14) (.c (.int .i64 1))⟩,
   ⟨(some 15), none, .mov (.t 16)⟩]
def r_tell_Write_6 : List O :=
  [⟨(some 17), none, .mov (.t 4)⟩,
   ⟨(some 18), none, .fa 5 (.t 1)⟩,
   ⟨(some 19), none, .load false 1 (.t 18)⟩,
   ⟨(some 20), none, .bsl 1 [(.int .i64 0)] 1 [(0, (.t 19))]⟩,
   ⟨(some 21), none, .app 3 1 8 (.t 17) (.t 20)⟩,
   ⟨(some 4), none, .mov (.t 21)⟩]
def r_tell_Write_7 : List O :=
  [⟨(some 23), none, .bin .eql (.t 14) (.c (.int .i64 2))⟩,
   ⟨(some 22), none, .mov (.t 23)⟩]
def r_tell_Write_8 : List O :=
  [⟨(some 24), none, .mov (.t 4)⟩,
   ⟨(some 25), none, .load true 10 (.t 1)⟩,
   ⟨(some 26), none, .call n_tell_grant [(.t 25)]⟩,
   ⟨(some 27), none, .app 3 1 8 (.t 24) (.t 26)⟩,
   ⟨(some 4), none, .mov (.t 27)⟩]
def r_tell_Write_9 : List O :=
  [⟨(some 29), none, .bin .eql (.t 14) (.c (.int .i64 3))⟩,
   ⟨(some 28), none, .mov (.t 29)⟩]
def r_tell_Write_10 : List D :=
  [⟨⟨(some 30), none, .mov (.t 4)⟩, []⟩,
   ⟨⟨(some 31), none, .fa 2 (.t 1)⟩, []⟩,
   ⟨⟨(some 32), none, .fa 0 (.t 31)⟩, []⟩,
   ⟨⟨(some 33), none, .load false 1 (.t 32)⟩, []⟩,
   ⟨⟨(some 34), none, .bsl 1 [(.int .i64 0)] 1 [(0, (.t 33))]⟩, []⟩,
   ⟨⟨(some 35), none, .app 3 1 8 (.t 30) (.t 34)⟩, []⟩,
   ⟨⟨(some 36), none, .fa 2 (.t 1)⟩, []⟩,
   ⟨⟨(some 37), none, .fa 1 (.t 36)⟩, []⟩,
   ⟨⟨(some 38), none, .load false 1 (.t 37)⟩, [4, 5]⟩,
   ⟨⟨(some 39), none, .call n_tell_counted [(.t 38)]⟩, []⟩,
   ⟨⟨(some 40), none, .app 3 1 8 (.t 35) (.t 39)⟩, []⟩,
   ⟨⟨(some 4), none, .mov (.t 40)⟩, []⟩]
def r_tell_Write_11 : List O :=
  [⟨(some 42), none, .bin .eql (.t 14) (.c (.int .i64 5))⟩,
   ⟨(some 41), none, .mov (.t 42)⟩]
def r_tell_Write_12 : List O :=
  [⟨(some 43), none, .mov (.t 4)⟩,
   ⟨(some 44), none, .fa 8 (.t 1)⟩,
   ⟨(some 45), none, .load false 1 (.t 44)⟩,
   ⟨(some 46), none, .bsl 1 [(.int .i64 0)] 1 [(0, (.t 45))]⟩,
   ⟨(some 47), none, .app 3 1 8 (.t 43) (.t 46)⟩,
   ⟨(some 4), none, .mov (.t 47)⟩]
def r_tell_Write_13 : List O :=
  [⟨(some 49), none, .mov (.t 4)⟩,
   ⟨(some 50), none, .call n_word_Put [(.t 49)]⟩,
   ⟨(some 48), none, .mov (.t 50)⟩,
   ⟨(some 51), none, .ext (.t 48) 0⟩,
   ⟨(some 52), none, .ext (.t 48) 1⟩,
   ⟨(some 5), none, .mov (.t 51)⟩,
   ⟨(some 6), none, .mov (.t 52)⟩]
def r_tell_Write_14 : List O :=
  [⟨(some 53), none, .mov (.t 6)⟩,
   ⟨(some 54), none, .bin .neq (.t 53) (.c (.int .i64 0))⟩]
def r_tell_Write_15 : List O :=
  [⟨(some 2), none, .mov (.c (.string .empty))⟩,
   ⟨(some 3), none, .mov (.c (.int .i64 2300))⟩]
def r_tell_Write_16 : List O :=
  [⟨(some 55), none, .mov (.t 5)⟩,
   ⟨(some 2), none, .mov (.t 55)⟩,
   ⟨(some 3), none, .mov (.c (.int .i64 0))⟩]
def c_tell_Write : MF := ⟨1, [.t 2, .t 3], (.seq (.reg r_tell_Write_0 [1]) (.seq (.seq (.reg r_tell_Write_1 [1, 9]) (.cond (.t 9) (.seq (.reg r_tell_Write_2 [2, 3]) .ret) .skip)) (.seq (.reg r_tell_Write_3 [1, 4]) (.seq (.seq (.reg r_tell_Write_4 [1, 4, 14]) (.blk 0 (.seq (.reg r_tell_Write_5 [1, 4, 14, 15]) (.cond (.t 15) (.reg r_tell_Write_6 [4]) (.seq (.reg r_tell_Write_7 [1, 4, 14, 22]) (.cond (.t 22) (.reg r_tell_Write_8 [4]) (.seq (.reg r_tell_Write_9 [1, 4, 14, 28]) (.cond (.t 28) (.dreg r_tell_Write_10 [4]) (.seq (.reg r_tell_Write_11 [1, 4, 41]) (.cond (.t 41) (.reg r_tell_Write_12 [4]) .skip)))))))))) (.seq (.reg r_tell_Write_13 [5, 6]) (.seq (.seq (.reg r_tell_Write_14 [5, 54]) (.cond (.t 54) (.seq (.reg r_tell_Write_15 [2, 3]) .ret) .skip)) (.seq (.reg r_tell_Write_16 [2, 3]) .ret)))))))⟩
theorem ok_tell_Write : okFun Try.prog n_tell_Write c_tell_Write = true := by kernel_rfl

/- tollbarref1_SpanMay -/
def n_tollbarref1_SpanMay : Nat := 62
def r_tollbarref1_SpanMay_0 : List O :=
  [⟨(some 1), none, .box 2 (.t 0)⟩,
   ⟨(some 2), none, .mov (.c (.bool false))⟩]
def r_tollbarref1_SpanMay_1 : List O :=
  [⟨(some 3), none, .fa 0 (.t 1)⟩,
   ⟨(some 4), none, .load false 1 (.t 3)⟩,
   ⟨(some 5), none, .bin .geq (.t 4) (.c (.int .i64 0))⟩,
   ⟨(some 6), none, .mov (.t 5)⟩,
   ⟨(some 7), (some (6, true)), .fa 0 (.t 1)⟩,
   ⟨(some 8), (some (6, true)), .load false 1 (.t 7)⟩,
   ⟨(some 9), (some (6, true)), .fa 1 (.t 1)⟩,
   ⟨(some 10), (some (6, true)), .load false 1 (.t 9)⟩,
   ⟨(some 11), (some (6, true)), .bin .lss (.t 8) (.t 10)⟩,
   ⟨(some 12), none, .pick (.t 6) (.t 11) (.c (.bool false))⟩,
   ⟨(some 13), none, .mov (.t 12)⟩,
   ⟨(some 14), (some (13, true)), .fa 1 (.t 1)⟩,
   ⟨(some 15), (some (13, true)), .load false 1 (.t 14)⟩,
   ⟨(some 16), (some (13, true)), .bin .leq (.t 15) (.c (.int .i64 4096))⟩,
   ⟨(some 17), none, .pick (.t 13) (.t 16) (.c (.bool false))⟩,
   ⟨(some 2), none, .mov (.t 17)⟩]
def c_tollbarref1_SpanMay : MF := ⟨1, [.t 2], (.seq (.reg r_tollbarref1_SpanMay_0 [1]) (.seq (.reg r_tollbarref1_SpanMay_1 [2]) .ret))⟩
theorem ok_tollbarref1_SpanMay : okFun Try.prog n_tollbarref1_SpanMay c_tollbarref1_SpanMay = true := by kernel_rfl

/- tollbarref19_Chained -/
def n_tollbarref19_Chained : Nat := 46
def r_tollbarref19_Chained_0 : List O :=
  [⟨(some 2), none, .box 2 (.t 0)⟩,
   ⟨(some 4), none, .mov (.c (.bool false))⟩]
def r_tollbarref19_Chained_1 : List O :=
  [⟨(some 7), none, .load true 2 (.t 2)⟩,
   ⟨(some 8), none, .call n_tollbarref1_SpanMay [(.t 7)]⟩,
   ⟨(some 9), none, .un .not (.t 8)⟩,
   ⟨(some 10), none, .mov (.t 9)⟩,
   ⟨(some 11), (some (10, false)), .mov (.t 1)⟩,
   ⟨(some 12), (some (10, false)), .len (.t 11)⟩,
   ⟨(some 13), (some (10, false)), .bin .eql (.t 12) (.c (.int .i64 0))⟩,
   ⟨(some 14), none, .pick (.t 10) (.c (.bool true)) (.t 13)⟩]
def r_tollbarref19_Chained_2 : List O :=
  [⟨(some 4), none, .mov (.c (.bool false))⟩]
def r_tollbarref19_Chained_3 : List O :=
  [⟨(some 15), none, .fa 0 (.t 2)⟩,
   ⟨(some 16), none, .load false 1 (.t 15)⟩,
   ⟨(some 5), none, .mov (.t 16)⟩]
def r_tollbarref19_Chained_4 : List O :=
  [⟨(some 6), none, .mov (.c (.int .i64 0))⟩]
def r_tollbarref19_Chained_5 : List O :=
  [⟨(some 17), none, .mov (.t 6)⟩,
   ⟨(some 18), none, .mov (.t 1)⟩,
   ⟨(some 19), none, .len (.t 18)⟩,
   ⟨(some 20), none, .bin .lss (.t 17) (.t 19)⟩]
def r_tollbarref19_Chained_6 : List O :=
  [⟨(some 23), none, .mov (.t 1)⟩,
   ⟨(some 24), none, .mov (.t 6)⟩,
   ⟨(some 25), none, .ia 3 (.t 23) (.t 24)⟩,
   ⟨(some 26), none, .fa 0 (.t 25)⟩,
   ⟨(some 27), none, .fa 0 (.t 26)⟩,
   ⟨(some 28), none, .load false 1 (.t 27)⟩,
   ⟨(some 29), none, .mov (.t 5)⟩,
   ⟨(some 30), none, .bin .neq (.t 28) (.t 29)⟩,
   ⟨(some 31), none, .mov (.t 30)⟩,
   ⟨(some 32), (some (31, false)), .mov (.t 1)⟩,
   ⟨(some 33), (some (31, false)), .mov (.t 6)⟩,
   ⟨(some 34), (some (31, false)), .ia 3 (.t 32) (.t 33)⟩,
   ⟨(some 35), (some (31, false)), .fa 0 (.t 34)⟩,
   ⟨(some 36), (some (31, false)), .load true 2 (.t 35)⟩,
   ⟨(some 37), (some (31, false)), .call n_tollbarref1_SpanMay [(.t 36)]⟩,
   ⟨(some 38), (some (31, false)), .un .not (.t 37)⟩,
   ⟨(some 39), none, .pick (.t 31) (.c (.bool true)) (.t 38)⟩]
def r_tollbarref19_Chained_7 : List O :=
  [⟨(some 4), none, .mov (.c (.bool false))⟩]
def r_tollbarref19_Chained_8 : List O :=
  [⟨(some 40), none, .mov (.t 1)⟩,
   ⟨(some 41), none, .mov (.t 6)⟩,
   ⟨(some 42), none, .ia 3 (.t 40) (.t 41)⟩,
   ⟨(some 43), none, .fa 0 (.t 42)⟩,
   ⟨(some 44), none, .fa 1 (.t 43)⟩,
   ⟨(some 45), none, .load false 1 (.t 44)⟩,
   ⟨(some 5), none, .mov (.t 45)⟩]
def r_tollbarref19_Chained_9 : List O :=
  [⟨(some 21), none, .mov (.t 6)⟩,
   ⟨(some 22), none, .bin .add (.t 21) (.c (.int .i64 1))⟩,
   ⟨(some 6), none, .mov (.t 22)⟩]
def l_tollbarref19_Chained_0 : C := (.seq (.seq (.reg r_tollbarref19_Chained_5 [1, 2, 5, 6, 20]) (.cond (.t 20) .skip (.exit 0))) (.seq (.blk 1 (.seq (.seq (.reg r_tollbarref19_Chained_6 [1, 2, 6, 39]) (.cond (.t 39) (.seq (.reg r_tollbarref19_Chained_7 [4]) .ret) .skip)) (.reg r_tollbarref19_Chained_8 [1, 2, 5, 6]))) (.reg r_tollbarref19_Chained_9 [1, 2, 5, 6])))
def r_tollbarref19_Chained_10 : List O :=
  [⟨(some 46), none, .mov (.t 5)⟩,
   ⟨(some 47), none, .fa 1 (.t 2)⟩,
   ⟨(some 48), none, .load false 1 (.t 47)⟩,
   ⟨(some 49), none, .bin .eql (.t 46) (.t 48)⟩,
   ⟨(some 4), none, .mov (.t 49)⟩]
def c_tollbarref19_Chained : MF := ⟨2, [.t 4], (.seq (.reg r_tollbarref19_Chained_0 [1, 2]) (.seq (.seq (.reg r_tollbarref19_Chained_1 [1, 2, 14]) (.cond (.t 14) (.seq (.reg r_tollbarref19_Chained_2 [4]) .ret) .skip)) (.seq (.reg r_tollbarref19_Chained_3 [1, 2, 5]) (.seq (.seq (.reg r_tollbarref19_Chained_4 [1, 2, 5, 6]) (.blk 0 (.loop l_tollbarref19_Chained_0))) (.seq (.reg r_tollbarref19_Chained_10 [4]) .ret)))))⟩
theorem ok_tollbarref19_Chained : okFun Try.prog n_tollbarref19_Chained c_tollbarref19_Chained = true := by kernel_rfl

/- tollbarref22_pathsMay -/
def n_tollbarref22_pathsMay : Nat := 47
def r_tollbarref22_pathsMay_0 : List O :=
  [⟨(some 2), none, .mov (.c (.bool false))⟩]
def r_tollbarref22_pathsMay_1 : List O :=
  [⟨(some 5), none, .mov (.t 0)⟩,
   ⟨(some 6), none, .len (.t 5)⟩,
   ⟨(some 7), none, .bin .lss (.t 6) (.c (.int .i64 1))⟩,
   ⟨(some 8), none, .mov (.t 7)⟩,
   ⟨(some 9), (some (8, false)), .mov (.t 0)⟩,
   ⟨(some 10), (some (8, false)), .len (.t 9)⟩,
   ⟨(some 11), (some (8, false)), .bin .gtr (.t 10) (.c (.int .i64 16))⟩,
   ⟨(some 12), none, .pick (.t 8) (.c (.bool true)) (.t 11)⟩]
def r_tollbarref22_pathsMay_2 : List O :=
  [⟨(some 2), none, .mov (.c (.bool false))⟩]
def r_tollbarref22_pathsMay_3 : List O :=
  [⟨(some 3), none, .mov (.c (.int .i64 0))⟩]
def r_tollbarref22_pathsMay_4 : List O :=
  [⟨(some 13), none, .mov (.t 3)⟩,
   ⟨(some 14), none, .mov (.t 0)⟩,
   ⟨(some 15), none, .len (.t 14)⟩,
   ⟨(some 16), none, .bin .lss (.t 13) (.t 15)⟩]
def r_tollbarref22_pathsMay_5 : List O :=
  [⟨(some 19), none, .mov (.t 0)⟩,
   ⟨(some 20), none, .mov (.t 3)⟩,
   ⟨(some 21), none, .ia 2 (.t 19) (.t 20)⟩,
   ⟨(some 22), none, .fa 0 (.t 21)⟩,
   ⟨(some 23), none, .load false 1 (.t 22)⟩,
   ⟨(some 24), none, .bin .lss (.t 23) (.c (.int .i64 1))⟩,
   ⟨(some 25), none, .mov (.t 24)⟩,
   ⟨(some 26), (some (25, false)), .mov (.t 0)⟩,
   ⟨(some 27), (some (25, false)), .mov (.t 3)⟩,
   ⟨(some 28), (some (25, false)), .ia 2 (.t 26) (.t 27)⟩,
   ⟨(some 29), (some (25, false)), .fa 0 (.t 28)⟩,
   ⟨(some 30), (some (25, false)), .load false 1 (.t 29)⟩,
   ⟨(some 31), (some (25, false)), .bin .gtr (.t 30) (.c (.int .i64 4611686018427387904))⟩,
   ⟨(some 32), none, .pick (.t 25) (.c (.bool true)) (.t 31)⟩,
   ⟨(some 33), none, .mov (.t 32)⟩,
   ⟨(some 34), (some (33, false)), .mov (.t 0)⟩,
   ⟨(some 35), (some (33, false)), .mov (.t 3)⟩,
   ⟨(some 36), (some (33, false)), .ia 2 (.t 34) (.t 35)⟩,
   ⟨(some 37), (some (33, false)), .fa 1 (.t 36)⟩,
   ⟨(some 38), (some (33, false)), .load false 1 (.t 37)⟩,
   ⟨(some 39), (some (33, false)), .len (.t 38)⟩,
   ⟨(some 40), (some (33, false)), .bin .lss (.t 39) (.c (.int .i64 1))⟩,
   ⟨(some 41), none, .pick (.t 33) (.c (.bool true)) (.t 40)⟩,
   ⟨(some 42), none, .mov (.t 41)⟩,
   ⟨(some 43), (some (42, false)), .mov (.t 0)⟩,
   ⟨(some 44), (some (42, false)), .mov (.t 3)⟩,
   ⟨(some 45), (some (42, false)), .ia 2 (.t 43) (.t 44)⟩,
   ⟨(some 46), (some (42, false)), .fa 1 (.t 45)⟩,
   ⟨(some 47), (some (42, false)), .load false 1 (.t 46)⟩,
   ⟨(some 48), (some (42, false)), .len (.t 47)⟩,
   ⟨(some 49), (some (42, false)), .bin .gtr (.t 48) (.c (.int .i64 16))⟩,
   ⟨(some 50), none, .pick (.t 42) (.c (.bool true)) (.t 49)⟩]
def r_tollbarref22_pathsMay_6 : List O :=
  [⟨(some 2), none, .mov (.c (.bool false))⟩]
def r_tollbarref22_pathsMay_7 : List O :=
  [⟨(some 4), none, .mov (.c (.int .i64 0))⟩]
def r_tollbarref22_pathsMay_8 : List O :=
  [⟨(some 51), none, .mov (.t 4)⟩,
   ⟨(some 52), none, .mov (.t 0)⟩,
   ⟨(some 53), none, .mov (.t 3)⟩,
   ⟨(some 54), none, .ia 2 (.t 52) (.t 53)⟩,
   ⟨(some 55), none, .fa 1 (.t 54)⟩,
   ⟨(some 56), none, .load false 1 (.t 55)⟩,
   ⟨(some 57), none, .len (.t 56)⟩,
   ⟨(some 58), none, .bin .lss (.t 51) (.t 57)⟩]
def r_tollbarref22_pathsMay_9 : List O :=
  [⟨(some 61), none, .mov (.t 0)⟩,
   ⟨(some 62), none, .mov (.t 3)⟩,
   ⟨(some 63), none, .ia 2 (.t 61) (.t 62)⟩,
   ⟨(some 64), none, .fa 1 (.t 63)⟩,
   ⟨(some 65), none, .load false 1 (.t 64)⟩,
   ⟨(some 66), none, .mov (.t 4)⟩,
   ⟨(some 67), none, .ia 1 (.t 65) (.t 66)⟩,
   ⟨(some 68), none, .load false 1 (.t 67)⟩,
   ⟨(some 69), none, .bin .lss (.t 68) (.c (.int .i64 0))⟩,
   ⟨(some 70), none, .mov (.t 69)⟩,
   ⟨(some 71), (some (70, false)), .mov (.t 0)⟩,
   ⟨(some 72), (some (70, false)), .mov (.t 3)⟩,
   ⟨(some 73), (some (70, false)), .ia 2 (.t 71) (.t 72)⟩,
   ⟨(some 74), (some (70, false)), .fa 1 (.t 73)⟩,
   ⟨(some 75), (some (70, false)), .load false 1 (.t 74)⟩,
   ⟨(some 76), (some (70, false)), .mov (.t 4)⟩,
   ⟨(some 77), (some (70, false)), .ia 1 (.t 75) (.t 76)⟩,
   ⟨(some 78), (some (70, false)), .load false 1 (.t 77)⟩,
   ⟨(some 79), (some (70, false)), .bin .geq (.t 78) (.c (.int .i64 16))⟩,
   ⟨(some 80), none, .pick (.t 70) (.c (.bool true)) (.t 79)⟩]
def r_tollbarref22_pathsMay_10 : List O :=
  [⟨(some 2), none, .mov (.c (.bool false))⟩]
def r_tollbarref22_pathsMay_11 : List O :=
  [⟨(some 59), none, .mov (.t 4)⟩,
   ⟨(some 60), none, .bin .add (.t 59) (.c (.int .i64 1))⟩,
   ⟨(some 4), none, .mov (.t 60)⟩]
def l_tollbarref22_pathsMay_0 : C := (.seq (.seq (.reg r_tollbarref22_pathsMay_8 [0, 3, 4, 58]) (.cond (.t 58) .skip (.exit 2))) (.seq (.blk 3 (.seq (.reg r_tollbarref22_pathsMay_9 [0, 3, 4, 80]) (.cond (.t 80) (.seq (.reg r_tollbarref22_pathsMay_10 [2]) .ret) .skip))) (.reg r_tollbarref22_pathsMay_11 [0, 3, 4])))
def r_tollbarref22_pathsMay_12 : List O :=
  [⟨(some 17), none, .mov (.t 3)⟩,
   ⟨(some 18), none, .bin .add (.t 17) (.c (.int .i64 1))⟩,
   ⟨(some 3), none, .mov (.t 18)⟩]
def l_tollbarref22_pathsMay_1 : C := (.seq (.seq (.reg r_tollbarref22_pathsMay_4 [0, 3, 16]) (.cond (.t 16) .skip (.exit 0))) (.seq (.blk 1 (.seq (.seq (.reg r_tollbarref22_pathsMay_5 [0, 3, 50]) (.cond (.t 50) (.seq (.reg r_tollbarref22_pathsMay_6 [2]) .ret) .skip)) (.seq (.reg r_tollbarref22_pathsMay_7 [0, 3, 4]) (.blk 2 (.loop l_tollbarref22_pathsMay_0))))) (.reg r_tollbarref22_pathsMay_12 [0, 3])))
def r_tollbarref22_pathsMay_13 : List O :=
  [⟨(some 2), none, .mov (.c (.bool true))⟩]
def c_tollbarref22_pathsMay : MF := ⟨1, [.t 2], (.seq (.reg r_tollbarref22_pathsMay_0 [0]) (.seq (.seq (.reg r_tollbarref22_pathsMay_1 [0, 12]) (.cond (.t 12) (.seq (.reg r_tollbarref22_pathsMay_2 [2]) .ret) .skip)) (.seq (.seq (.reg r_tollbarref22_pathsMay_3 [0, 3]) (.blk 0 (.loop l_tollbarref22_pathsMay_1))) (.seq (.reg r_tollbarref22_pathsMay_13 [2]) .ret))))⟩
theorem ok_tollbarref22_pathsMay : okFun Try.prog n_tollbarref22_pathsMay c_tollbarref22_pathsMay = true := by kernel_rfl

/- tollbarref22_grantMay -/
def n_tollbarref22_grantMay : Nat := 30
def r_tollbarref22_grantMay_0 : List O :=
  [⟨(some 1), none, .box 10 (.t 0)⟩,
   ⟨(some 2), none, .mov (.c (.bool false))⟩]
def r_tollbarref22_grantMay_1 : List O :=
  [⟨(some 4), none, .fa 6 (.t 1)⟩,
   ⟨(some 5), none, .load false 1 (.t 4)⟩,
   ⟨(some 6), none, .bin .lss (.t 5) (.c (.int .i64 1))⟩,
   ⟨(some 7), none, .mov (.t 6)⟩,
   ⟨(some 8), (some (7, false)), .fa 6 (.t 1)⟩,
   ⟨(some 9), (some (7, false)), .load false 1 (.t 8)⟩,
   ⟨(some 10), (some (7, false)), .bin .gtr (.t 9) (.c (.int .i64 1048576))⟩,
   ⟨(some 11), none, .pick (.t 7) (.c (.bool true)) (.t 10)⟩,
   ⟨(some 12), none, .mov (.t 11)⟩,
   ⟨(some 13), (some (12, false)), .fa 7 (.t 1)⟩,
   ⟨(some 14), (some (12, false)), .load false 1 (.t 13)⟩,
   ⟨(some 15), (some (12, false)), .bin .lss (.t 14) (.c (.int .i64 1))⟩,
   ⟨(some 16), none, .pick (.t 12) (.c (.bool true)) (.t 15)⟩,
   ⟨(some 17), none, .mov (.t 16)⟩,
   ⟨(some 18), (some (17, false)), .fa 7 (.t 1)⟩,
   ⟨(some 19), (some (17, false)), .load false 1 (.t 18)⟩,
   ⟨(some 20), (some (17, false)), .bin .gtr (.t 19) (.c (.int .i64 4611686018427387904))⟩,
   ⟨(some 21), none, .pick (.t 17) (.c (.bool true)) (.t 20)⟩,
   ⟨(some 22), none, .mov (.t 21)⟩,
   ⟨(some 23), (some (22, false)), .fa 9 (.t 1)⟩,
   ⟨(some 24), (some (22, false)), .load false 1 (.t 23)⟩,
   ⟨(some 25), (some (22, false)), .len (.t 24)⟩,
   ⟨(some 26), (some (22, false)), .bin .gtr (.t 25) (.c (.int .i64 8))⟩,
   ⟨(some 27), none, .pick (.t 22) (.c (.bool true)) (.t 26)⟩,
   ⟨(some 28), none, .mov (.t 27)⟩,
   ⟨(some 29), (some (28, false)), .fa 0 (.t 1)⟩,
   ⟨(some 30), (some (28, false)), .load true 2 (.t 29)⟩,
   ⟨(some 31), (some (28, false)), .fa 9 (.t 1)⟩,
   ⟨(some 32), (some (28, false)), .load false 1 (.t 31)⟩,
   ⟨(some 33), (some (28, false)), .call n_tollbarref19_Chained [(.t 30), (.t 32)]⟩,
   ⟨(some 34), (some (28, false)), .un .not (.t 33)⟩,
   ⟨(some 35), none, .pick (.t 28) (.c (.bool true)) (.t 34)⟩]
def r_tollbarref22_grantMay_2 : List O :=
  [⟨(some 2), none, .mov (.c (.bool false))⟩]
def r_tollbarref22_grantMay_3 : List O :=
  [⟨(some 3), none, .mov (.c (.int .i64 0))⟩]
def r_tollbarref22_grantMay_4 : List O :=
  [⟨(some 36), none, .mov (.t 3)⟩,
   ⟨(some 37), none, .fa 9 (.t 1)⟩,
   ⟨(some 38), none, .load false 1 (.t 37)⟩,
   ⟨(some 39), none, .len (.t 38)⟩,
   ⟨(some 40), none, .bin .lss (.t 36) (.t 39)⟩]
def r_tollbarref22_grantMay_5 : List O :=
  [⟨(some 43), none, .fa 9 (.t 1)⟩,
   ⟨(some 44), none, .load false 1 (.t 43)⟩,
   ⟨(some 45), none, .mov (.t 3)⟩,
   ⟨(some 46), none, .ia 3 (.t 44) (.t 45)⟩,
   ⟨(some 47), none, .fa 2 (.t 46)⟩,
   ⟨(some 48), none, .load false 1 (.t 47)⟩,
   ⟨(some 49), none, .call n_tollbarref22_pathsMay [(.t 48)]⟩,
   ⟨(some 50), none, .un .not (.t 49)⟩]
def r_tollbarref22_grantMay_6 : List O :=
  [⟨(some 2), none, .mov (.c (.bool false))⟩]
def r_tollbarref22_grantMay_7 : List O :=
  [⟨(some 41), none, .mov (.t 3)⟩,
   ⟨(some 42), none, .bin .add (.t 41) (.c (.int .i64 1))⟩,
   ⟨(some 3), none, .mov (.t 42)⟩]
def l_tollbarref22_grantMay_0 : C := (.seq (.seq (.reg r_tollbarref22_grantMay_4 [1, 3, 40]) (.cond (.t 40) .skip (.exit 0))) (.seq (.blk 1 (.seq (.reg r_tollbarref22_grantMay_5 [1, 3, 50]) (.cond (.t 50) (.seq (.reg r_tollbarref22_grantMay_6 [2]) .ret) .skip))) (.reg r_tollbarref22_grantMay_7 [1, 3])))
def r_tollbarref22_grantMay_8 : List O :=
  [⟨(some 2), none, .mov (.c (.bool true))⟩]
def c_tollbarref22_grantMay : MF := ⟨1, [.t 2], (.seq (.reg r_tollbarref22_grantMay_0 [1]) (.seq (.seq (.reg r_tollbarref22_grantMay_1 [1, 35]) (.cond (.t 35) (.seq (.reg r_tollbarref22_grantMay_2 [2]) .ret) .skip)) (.seq (.seq (.reg r_tollbarref22_grantMay_3 [1, 3]) (.blk 0 (.loop l_tollbarref22_grantMay_0))) (.seq (.reg r_tollbarref22_grantMay_8 [2]) .ret))))⟩
theorem ok_tollbarref22_grantMay : okFun Try.prog n_tollbarref22_grantMay c_tollbarref22_grantMay = true := by kernel_rfl

/- tollbarref22_cutMay -/
def n_tollbarref22_cutMay : Nat := 31
def r_tollbarref22_cutMay_0 : List O :=
  [⟨(some 1), none, .box 2 (.t 0)⟩,
   ⟨(some 2), none, .mov (.c (.bool false))⟩]
def r_tollbarref22_cutMay_1 : List O :=
  [⟨(some 4), none, .fa 0 (.t 1)⟩,
   ⟨(some 5), none, .load false 1 (.t 4)⟩,
   ⟨(some 6), none, .bin .lss (.t 5) (.c (.int .i64 0))⟩,
   ⟨(some 7), none, .mov (.t 6)⟩,
   ⟨(some 8), (some (7, false)), .fa 0 (.t 1)⟩,
   ⟨(some 9), (some (7, false)), .load false 1 (.t 8)⟩,
   ⟨(some 10), (some (7, false)), .bin .geq (.t 9) (.c (.int .i64 4096))⟩,
   ⟨(some 11), none, .pick (.t 7) (.c (.bool true)) (.t 10)⟩,
   ⟨(some 12), none, .mov (.t 11)⟩,
   ⟨(some 13), (some (12, false)), .fa 1 (.t 1)⟩,
   ⟨(some 14), (some (12, false)), .load false 1 (.t 13)⟩,
   ⟨(some 15), (some (12, false)), .len (.t 14)⟩,
   ⟨(some 16), (some (12, false)), .bin .lss (.t 15) (.c (.int .i64 1))⟩,
   ⟨(some 17), none, .pick (.t 12) (.c (.bool true)) (.t 16)⟩]
def r_tollbarref22_cutMay_2 : List O :=
  [⟨(some 2), none, .mov (.c (.bool false))⟩]
def r_tollbarref22_cutMay_3 : List O :=
  [⟨(some 3), none, .mov (.c (.int .i64 0))⟩]
def r_tollbarref22_cutMay_4 : List O :=
  [⟨(some 18), none, .mov (.t 3)⟩,
   ⟨(some 19), none, .fa 1 (.t 1)⟩,
   ⟨(some 20), none, .load false 1 (.t 19)⟩,
   ⟨(some 21), none, .len (.t 20)⟩,
   ⟨(some 22), none, .bin .lss (.t 18) (.t 21)⟩]
def r_tollbarref22_cutMay_5 : List D :=
  [⟨⟨(some 25), none, .fa 1 (.t 1)⟩, []⟩,
   ⟨⟨(some 26), none, .load false 1 (.t 25)⟩, []⟩,
   ⟨⟨(some 27), none, .mov (.t 3)⟩, []⟩,
   ⟨⟨(some 28), none, .ia 1 (.t 26) (.t 27)⟩, []⟩,
   ⟨⟨(some 29), none, .load false 1 (.t 28)⟩, []⟩,
   ⟨⟨(some 30), none, .bin .lss (.t 29) (.c (.int .i64 0))⟩, []⟩,
   ⟨⟨(some 31), none, .mov (.t 30)⟩, []⟩,
   ⟨⟨(some 32), (some (31, false)), .fa 1 (.t 1)⟩, []⟩,
   ⟨⟨(some 33), (some (31, false)), .load false 1 (.t 32)⟩, []⟩,
   ⟨⟨(some 34), (some (31, false)), .mov (.t 3)⟩, []⟩,
   ⟨⟨(some 35), (some (31, false)), .ia 1 (.t 33) (.t 34)⟩, []⟩,
   ⟨⟨(some 36), (some (31, false)), .load false 1 (.t 35)⟩, []⟩,
   ⟨⟨(some 37), (some (31, false)), .bin .geq (.t 36) (.c (.int .i64 8))⟩, []⟩,
   ⟨⟨(some 38), none, .pick (.t 31) (.c (.bool true)) (.t 37)⟩, []⟩,
   ⟨⟨(some 39), none, .mov (.t 38)⟩, []⟩,
   ⟨⟨(some 40), (some (39, false)), .mov (.t 3)⟩, []⟩,
   ⟨⟨(some 41), (some (39, false)), .bin .gtr (.t 40) (.c (.int .i64 0))⟩, []⟩,
   ⟨⟨(some 42), (some (39, false)), .mov (.t 41)⟩, []⟩,
   ⟨⟨(some 43), (some (42, true)), .fa 1 (.t 1)⟩, []⟩,
   ⟨⟨(some 44), (some (42, true)), .load false 1 (.t 43)⟩, []⟩,
   ⟨⟨(some 45), (some (42, true)), .mov (.t 3)⟩, []⟩,
   ⟨⟨(some 46), (some (42, true)), .ia 1 (.t 44) (.t 45)⟩, []⟩,
   ⟨⟨(some 47), (some (42, true)), .load false 1 (.t 46)⟩, []⟩,
   ⟨⟨(some 48), (some (42, true)), .fa 1 (.t 1)⟩, []⟩,
   ⟨⟨(some 49), (some (42, true)), .load false 1 (.t 48)⟩, []⟩,
   ⟨⟨(some 50), (some (42, true)), .mov (.t 3)⟩, []⟩,
   ⟨⟨(some 51), (some (42, true)), .bin .sub (.t 50) (.c (.int .i64 1))⟩, []⟩,
   ⟨⟨(some 52), (some (42, true)), .ia 1 (.t 49) (.t 51)⟩, []⟩,
   ⟨⟨(some 53), (some (42, true)), .load false 1 (.t 52)⟩, []⟩,
   ⟨⟨(some 54), (some (42, true)), .bin .leq (.t 47) (.t 53)⟩, []⟩,
   ⟨⟨(some 55), (some (39, false)), .pick (.t 42) (.t 54) (.c (.bool false))⟩, []⟩,
   ⟨⟨(some 56), none, .pick (.t 39) (.c (.bool true)) (.t 55)⟩, []⟩]
def r_tollbarref22_cutMay_6 : List O :=
  [⟨(some 2), none, .mov (.c (.bool false))⟩]
def r_tollbarref22_cutMay_7 : List O :=
  [⟨(some 23), none, .mov (.t 3)⟩,
   ⟨(some 24), none, .bin .add (.t 23) (.c (.int .i64 1))⟩,
   ⟨(some 3), none, .mov (.t 24)⟩]
def l_tollbarref22_cutMay_0 : C := (.seq (.seq (.reg r_tollbarref22_cutMay_4 [1, 3, 22]) (.cond (.t 22) .skip (.exit 0))) (.seq (.blk 1 (.seq (.dreg r_tollbarref22_cutMay_5 [1, 3, 56]) (.cond (.t 56) (.seq (.reg r_tollbarref22_cutMay_6 [2]) .ret) .skip))) (.reg r_tollbarref22_cutMay_7 [1, 3])))
def r_tollbarref22_cutMay_8 : List O :=
  [⟨(some 2), none, .mov (.c (.bool true))⟩]
def c_tollbarref22_cutMay : MF := ⟨1, [.t 2], (.seq (.reg r_tollbarref22_cutMay_0 [1]) (.seq (.seq (.reg r_tollbarref22_cutMay_1 [1, 17]) (.cond (.t 17) (.seq (.reg r_tollbarref22_cutMay_2 [2]) .ret) .skip)) (.seq (.seq (.reg r_tollbarref22_cutMay_3 [1, 3]) (.blk 0 (.loop l_tollbarref22_cutMay_0))) (.seq (.reg r_tollbarref22_cutMay_8 [2]) .ret))))⟩
theorem ok_tollbarref22_cutMay : okFun Try.prog n_tollbarref22_cutMay c_tollbarref22_cutMay = true := by kernel_rfl

/- tollbarref1_Rate -/
def n_tollbarref1_Rate : Nat := 32
def r_tollbarref1_Rate_0 : List O :=
  [⟨(some 2), none, .mov (.c (.bool false))⟩]
def r_tollbarref1_Rate_1 : List O :=
  [⟨(some 3), none, .mov (.t 0)⟩,
   ⟨(some 4), none, .bin .geq (.t 3) (.c (.int .i64 0))⟩,
   ⟨(some 5), none, .mov (.t 4)⟩,
   ⟨(some 6), (some (5, true)), .mov (.t 0)⟩,
   ⟨(some 7), (some (5, true)), .bin .leq (.t 6) (.c (.int .i64 4611686018427387904))⟩,
   ⟨(some 8), none, .pick (.t 5) (.t 7) (.c (.bool false))⟩,
   ⟨(some 2), none, .mov (.t 8)⟩]
def c_tollbarref1_Rate : MF := ⟨1, [.t 2], (.seq (.reg r_tollbarref1_Rate_0 [0]) (.seq (.reg r_tollbarref1_Rate_1 [2]) .ret))⟩
theorem ok_tollbarref1_Rate : okFun Try.prog n_tollbarref1_Rate c_tollbarref1_Rate = true := by kernel_rfl

/- tollbarref19_SameInts -/
def n_tollbarref19_SameInts : Nat := 48
def r_tollbarref19_SameInts_0 : List O :=
  [⟨(some 4), none, .mov (.c (.bool false))⟩]
def r_tollbarref19_SameInts_1 : List O :=
  [⟨(some 6), none, .mov (.t 0)⟩,
   ⟨(some 7), none, .len (.t 6)⟩,
   ⟨(some 8), none, .mov (.t 1)⟩,
   ⟨(some 9), none, .len (.t 8)⟩,
   ⟨(some 10), none, .bin .neq (.t 7) (.t 9)⟩]
def r_tollbarref19_SameInts_2 : List O :=
  [⟨(some 4), none, .mov (.c (.bool false))⟩]
def r_tollbarref19_SameInts_3 : List O :=
  [⟨(some 5), none, .mov (.c (.int .i64 0))⟩]
def r_tollbarref19_SameInts_4 : List O :=
  [⟨(some 11), none, .mov (.t 5)⟩,
   ⟨(some 12), none, .mov (.t 0)⟩,
   ⟨(some 13), none, .len (.t 12)⟩,
   ⟨(some 14), none, .bin .lss (.t 11) (.t 13)⟩]
def r_tollbarref19_SameInts_5 : List D :=
  [⟨⟨(some 17), none, .mov (.t 0)⟩, []⟩,
   ⟨⟨(some 18), none, .mov (.t 5)⟩, []⟩,
   ⟨⟨(some 19), none, .ia 1 (.t 17) (.t 18)⟩, []⟩,
   ⟨⟨(some 20), none, .load false 1 (.t 19)⟩, []⟩,
   ⟨⟨(some 21), none, .mov (.t 1)⟩, []⟩,
   ⟨⟨(some 22), none, .mov (.t 5)⟩, []⟩,
   ⟨⟨(some 23), none, .ia 1 (.t 21) (.t 22)⟩, []⟩,
   ⟨⟨(some 24), none, .load false 1 (.t 23)⟩, []⟩,
   ⟨⟨(some 25), none, .bin .neq (.t 20) (.t 24)⟩, []⟩]
def r_tollbarref19_SameInts_6 : List O :=
  [⟨(some 4), none, .mov (.c (.bool false))⟩]
def r_tollbarref19_SameInts_7 : List O :=
  [⟨(some 15), none, .mov (.t 5)⟩,
   ⟨(some 16), none, .bin .add (.t 15) (.c (.int .i64 1))⟩,
   ⟨(some 5), none, .mov (.t 16)⟩]
def l_tollbarref19_SameInts_0 : C := (.seq (.seq (.reg r_tollbarref19_SameInts_4 [0, 1, 5, 14]) (.cond (.t 14) .skip (.exit 0))) (.seq (.blk 1 (.seq (.dreg r_tollbarref19_SameInts_5 [0, 1, 5, 25]) (.cond (.t 25) (.seq (.reg r_tollbarref19_SameInts_6 [4]) .ret) .skip))) (.reg r_tollbarref19_SameInts_7 [0, 1, 5])))
def r_tollbarref19_SameInts_8 : List O :=
  [⟨(some 4), none, .mov (.c (.bool true))⟩]
def c_tollbarref19_SameInts : MF := ⟨2, [.t 4], (.seq (.reg r_tollbarref19_SameInts_0 [0, 1]) (.seq (.seq (.reg r_tollbarref19_SameInts_1 [0, 1, 10]) (.cond (.t 10) (.seq (.reg r_tollbarref19_SameInts_2 [4]) .ret) .skip)) (.seq (.seq (.reg r_tollbarref19_SameInts_3 [0, 1, 5]) (.blk 0 (.loop l_tollbarref19_SameInts_0))) (.seq (.reg r_tollbarref19_SameInts_8 [4]) .ret))))⟩
theorem ok_tollbarref19_SameInts : okFun Try.prog n_tollbarref19_SameInts c_tollbarref19_SameInts = true := by kernel_rfl

/- tollbarref19_SamePaths -/
def n_tollbarref19_SamePaths : Nat := 63
def r_tollbarref19_SamePaths_0 : List O :=
  [⟨(some 4), none, .mov (.c (.bool false))⟩]
def r_tollbarref19_SamePaths_1 : List O :=
  [⟨(some 7), none, .mov (.t 0)⟩,
   ⟨(some 8), none, .len (.t 7)⟩,
   ⟨(some 9), none, .mov (.t 1)⟩,
   ⟨(some 10), none, .len (.t 9)⟩,
   ⟨(some 11), none, .bin .neq (.t 8) (.t 10)⟩]
def r_tollbarref19_SamePaths_2 : List O :=
  [⟨(some 4), none, .mov (.c (.bool false))⟩]
def r_tollbarref19_SamePaths_3 : List O :=
  [⟨(some 5), none, .mov (.c (.int .i64 0))⟩]
def r_tollbarref19_SamePaths_4 : List O :=
  [⟨(some 12), none, .mov (.t 5)⟩,
   ⟨(some 13), none, .mov (.t 0)⟩,
   ⟨(some 14), none, .len (.t 13)⟩,
   ⟨(some 15), none, .bin .lss (.t 12) (.t 14)⟩]
def r_tollbarref19_SamePaths_5 : List D :=
  [⟨⟨(some 18), none, .mov (.t 0)⟩, []⟩,
   ⟨⟨(some 19), none, .mov (.t 5)⟩, []⟩,
   ⟨⟨(some 20), none, .ia 2 (.t 18) (.t 19)⟩, []⟩,
   ⟨⟨(some 21), none, .fa 0 (.t 20)⟩, []⟩,
   ⟨⟨(some 22), none, .load false 1 (.t 21)⟩, []⟩,
   ⟨⟨(some 23), none, .mov (.t 1)⟩, []⟩,
   ⟨⟨(some 24), none, .mov (.t 5)⟩, []⟩,
   ⟨⟨(some 25), none, .ia 2 (.t 23) (.t 24)⟩, []⟩,
   ⟨⟨(some 26), none, .fa 0 (.t 25)⟩, []⟩,
   ⟨⟨(some 27), none, .load false 1 (.t 26)⟩, []⟩,
   ⟨⟨(some 28), none, .bin .neq (.t 22) (.t 27)⟩, []⟩,
   ⟨⟨(some 29), none, .mov (.t 28)⟩, []⟩,
   ⟨⟨(some 30), (some (29, false)), .mov (.t 0)⟩, []⟩,
   ⟨⟨(some 31), (some (29, false)), .mov (.t 5)⟩, []⟩,
   ⟨⟨(some 32), (some (29, false)), .ia 2 (.t 30) (.t 31)⟩, []⟩,
   ⟨⟨(some 33), (some (29, false)), .fa 1 (.t 32)⟩, []⟩,
   ⟨⟨(some 34), (some (29, false)), .load false 1 (.t 33)⟩, []⟩,
   ⟨⟨(some 35), (some (29, false)), .len (.t 34)⟩, []⟩,
   ⟨⟨(some 36), (some (29, false)), .mov (.t 1)⟩, []⟩,
   ⟨⟨(some 37), (some (29, false)), .mov (.t 5)⟩, []⟩,
   ⟨⟨(some 38), (some (29, false)), .ia 2 (.t 36) (.t 37)⟩, []⟩,
   ⟨⟨(some 39), (some (29, false)), .fa 1 (.t 38)⟩, []⟩,
   ⟨⟨(some 40), (some (29, false)), .load false 1 (.t 39)⟩, []⟩,
   ⟨⟨(some 41), (some (29, false)), .len (.t 40)⟩, []⟩,
   ⟨⟨(some 42), (some (29, false)), .bin .neq (.t 35) (.t 41)⟩, []⟩,
   ⟨⟨(some 43), none, .pick (.t 29) (.c (.bool true)) (.t 42)⟩, []⟩]
def r_tollbarref19_SamePaths_6 : List O :=
  [⟨(some 4), none, .mov (.c (.bool false))⟩]
def r_tollbarref19_SamePaths_7 : List O :=
  [⟨(some 6), none, .mov (.c (.int .i64 0))⟩]
def r_tollbarref19_SamePaths_8 : List O :=
  [⟨(some 44), none, .mov (.t 6)⟩,
   ⟨(some 45), none, .mov (.t 0)⟩,
   ⟨(some 46), none, .mov (.t 5)⟩,
   ⟨(some 47), none, .ia 2 (.t 45) (.t 46)⟩,
   ⟨(some 48), none, .fa 1 (.t 47)⟩,
   ⟨(some 49), none, .load false 1 (.t 48)⟩,
   ⟨(some 50), none, .len (.t 49)⟩,
   ⟨(some 51), none, .bin .lss (.t 44) (.t 50)⟩]
def r_tollbarref19_SamePaths_9 : List D :=
  [⟨⟨(some 54), none, .mov (.t 0)⟩, []⟩,
   ⟨⟨(some 55), none, .mov (.t 5)⟩, []⟩,
   ⟨⟨(some 56), none, .ia 2 (.t 54) (.t 55)⟩, []⟩,
   ⟨⟨(some 57), none, .fa 1 (.t 56)⟩, []⟩,
   ⟨⟨(some 58), none, .load false 1 (.t 57)⟩, []⟩,
   ⟨⟨(some 59), none, .mov (.t 6)⟩, []⟩,
   ⟨⟨(some 60), none, .ia 1 (.t 58) (.t 59)⟩, []⟩,
   ⟨⟨(some 61), none, .load false 1 (.t 60)⟩, []⟩,
   ⟨⟨(some 62), none, .mov (.t 1)⟩, []⟩,
   ⟨⟨(some 63), none, .mov (.t 5)⟩, []⟩,
   ⟨⟨(some 64), none, .ia 2 (.t 62) (.t 63)⟩, []⟩,
   ⟨⟨(some 65), none, .fa 1 (.t 64)⟩, []⟩,
   ⟨⟨(some 66), none, .load false 1 (.t 65)⟩, []⟩,
   ⟨⟨(some 67), none, .mov (.t 6)⟩, []⟩,
   ⟨⟨(some 68), none, .ia 1 (.t 66) (.t 67)⟩, []⟩,
   ⟨⟨(some 69), none, .load false 1 (.t 68)⟩, []⟩,
   ⟨⟨(some 70), none, .bin .neq (.t 61) (.t 69)⟩, []⟩]
def r_tollbarref19_SamePaths_10 : List O :=
  [⟨(some 4), none, .mov (.c (.bool false))⟩]
def r_tollbarref19_SamePaths_11 : List O :=
  [⟨(some 52), none, .mov (.t 6)⟩,
   ⟨(some 53), none, .bin .add (.t 52) (.c (.int .i64 1))⟩,
   ⟨(some 6), none, .mov (.t 53)⟩]
def l_tollbarref19_SamePaths_0 : C := (.seq (.seq (.reg r_tollbarref19_SamePaths_8 [0, 1, 5, 6, 51]) (.cond (.t 51) .skip (.exit 2))) (.seq (.blk 3 (.seq (.dreg r_tollbarref19_SamePaths_9 [0, 1, 5, 6, 70]) (.cond (.t 70) (.seq (.reg r_tollbarref19_SamePaths_10 [4]) .ret) .skip))) (.reg r_tollbarref19_SamePaths_11 [0, 1, 5, 6])))
def r_tollbarref19_SamePaths_12 : List O :=
  [⟨(some 16), none, .mov (.t 5)⟩,
   ⟨(some 17), none, .bin .add (.t 16) (.c (.int .i64 1))⟩,
   ⟨(some 5), none, .mov (.t 17)⟩]
def l_tollbarref19_SamePaths_1 : C := (.seq (.seq (.reg r_tollbarref19_SamePaths_4 [0, 1, 5, 15]) (.cond (.t 15) .skip (.exit 0))) (.seq (.blk 1 (.seq (.seq (.dreg r_tollbarref19_SamePaths_5 [0, 1, 5, 43]) (.cond (.t 43) (.seq (.reg r_tollbarref19_SamePaths_6 [4]) .ret) .skip)) (.seq (.reg r_tollbarref19_SamePaths_7 [0, 1, 5, 6]) (.blk 2 (.loop l_tollbarref19_SamePaths_0))))) (.reg r_tollbarref19_SamePaths_12 [0, 1, 5])))
def r_tollbarref19_SamePaths_13 : List O :=
  [⟨(some 4), none, .mov (.c (.bool true))⟩]
def c_tollbarref19_SamePaths : MF := ⟨2, [.t 4], (.seq (.reg r_tollbarref19_SamePaths_0 [0, 1]) (.seq (.seq (.reg r_tollbarref19_SamePaths_1 [0, 1, 11]) (.cond (.t 11) (.seq (.reg r_tollbarref19_SamePaths_2 [4]) .ret) .skip)) (.seq (.seq (.reg r_tollbarref19_SamePaths_3 [0, 1, 5]) (.blk 0 (.loop l_tollbarref19_SamePaths_1))) (.seq (.reg r_tollbarref19_SamePaths_13 [4]) .ret))))⟩
theorem ok_tollbarref19_SamePaths : okFun Try.prog n_tollbarref19_SamePaths c_tollbarref19_SamePaths = true := by kernel_rfl

/- tollbarref19_SamePieces -/
def n_tollbarref19_SamePieces : Nat := 49
def r_tollbarref19_SamePieces_0 : List O :=
  [⟨(some 4), none, .mov (.c (.bool false))⟩]
def r_tollbarref19_SamePieces_1 : List O :=
  [⟨(some 6), none, .mov (.t 0)⟩,
   ⟨(some 7), none, .len (.t 6)⟩,
   ⟨(some 8), none, .mov (.t 1)⟩,
   ⟨(some 9), none, .len (.t 8)⟩,
   ⟨(some 10), none, .bin .neq (.t 7) (.t 9)⟩]
def r_tollbarref19_SamePieces_2 : List O :=
  [⟨(some 4), none, .mov (.c (.bool false))⟩]
def r_tollbarref19_SamePieces_3 : List O :=
  [⟨(some 5), none, .mov (.c (.int .i64 0))⟩]
def r_tollbarref19_SamePieces_4 : List O :=
  [⟨(some 11), none, .mov (.t 5)⟩,
   ⟨(some 12), none, .mov (.t 0)⟩,
   ⟨(some 13), none, .len (.t 12)⟩,
   ⟨(some 14), none, .bin .lss (.t 11) (.t 13)⟩]
def r_tollbarref19_SamePieces_5 : List D :=
  [⟨⟨(some 17), none, .mov (.t 0)⟩, []⟩,
   ⟨⟨(some 18), none, .mov (.t 5)⟩, []⟩,
   ⟨⟨(some 19), none, .ia 3 (.t 17) (.t 18)⟩, []⟩,
   ⟨⟨(some 20), none, .fa 0 (.t 19)⟩, []⟩,
   ⟨⟨(some 21), none, .load true 2 (.t 20)⟩, []⟩,
   ⟨⟨(some 22), none, .mov (.t 1)⟩, []⟩,
   ⟨⟨(some 23), none, .mov (.t 5)⟩, []⟩,
   ⟨⟨(some 24), none, .ia 3 (.t 22) (.t 23)⟩, []⟩,
   ⟨⟨(some 25), none, .fa 0 (.t 24)⟩, []⟩,
   ⟨⟨(some 26), none, .load true 2 (.t 25)⟩, []⟩,
   ⟨⟨(some 27), none, .eqs true [0, 0] (.t 21) (.t 26)⟩, []⟩,
   ⟨⟨(some 28), none, .mov (.t 27)⟩, []⟩,
   ⟨⟨(some 29), (some (28, false)), .mov (.t 0)⟩, []⟩,
   ⟨⟨(some 30), (some (28, false)), .mov (.t 5)⟩, []⟩,
   ⟨⟨(some 31), (some (28, false)), .ia 3 (.t 29) (.t 30)⟩, []⟩,
   ⟨⟨(some 32), (some (28, false)), .fa 2 (.t 31)⟩, []⟩,
   ⟨⟨(some 33), (some (28, false)), .load false 1 (.t 32)⟩, []⟩,
   ⟨⟨(some 34), (some (28, false)), .mov (.t 1)⟩, []⟩,
   ⟨⟨(some 35), (some (28, false)), .mov (.t 5)⟩, []⟩,
   ⟨⟨(some 36), (some (28, false)), .ia 3 (.t 34) (.t 35)⟩, []⟩,
   ⟨⟨(some 37), (some (28, false)), .fa 2 (.t 36)⟩, []⟩,
   ⟨⟨(some 38), (some (28, false)), .load false 1 (.t 37)⟩, []⟩,
   ⟨⟨(some 39), (some (28, false)), .call n_tollbarref19_SamePaths [(.t 33), (.t 38)]⟩, []⟩,
   ⟨⟨(some 40), (some (28, false)), .un .not (.t 39)⟩, []⟩,
   ⟨⟨(some 41), none, .pick (.t 28) (.c (.bool true)) (.t 40)⟩, []⟩]
def r_tollbarref19_SamePieces_6 : List O :=
  [⟨(some 4), none, .mov (.c (.bool false))⟩]
def r_tollbarref19_SamePieces_7 : List O :=
  [⟨(some 15), none, .mov (.t 5)⟩,
   ⟨(some 16), none, .bin .add (.t 15) (.c (.int .i64 1))⟩,
   ⟨(some 5), none, .mov (.t 16)⟩]
def l_tollbarref19_SamePieces_0 : C := (.seq (.seq (.reg r_tollbarref19_SamePieces_4 [0, 1, 5, 14]) (.cond (.t 14) .skip (.exit 0))) (.seq (.blk 1 (.seq (.dreg r_tollbarref19_SamePieces_5 [0, 1, 5, 41]) (.cond (.t 41) (.seq (.reg r_tollbarref19_SamePieces_6 [4]) .ret) .skip))) (.reg r_tollbarref19_SamePieces_7 [0, 1, 5])))
def r_tollbarref19_SamePieces_8 : List O :=
  [⟨(some 4), none, .mov (.c (.bool true))⟩]
def c_tollbarref19_SamePieces : MF := ⟨2, [.t 4], (.seq (.reg r_tollbarref19_SamePieces_0 [0, 1]) (.seq (.seq (.reg r_tollbarref19_SamePieces_1 [0, 1, 10]) (.cond (.t 10) (.seq (.reg r_tollbarref19_SamePieces_2 [4]) .ret) .skip)) (.seq (.seq (.reg r_tollbarref19_SamePieces_3 [0, 1, 5]) (.blk 0 (.loop l_tollbarref19_SamePieces_0))) (.seq (.reg r_tollbarref19_SamePieces_8 [4]) .ret))))⟩
theorem ok_tollbarref19_SamePieces : okFun Try.prog n_tollbarref19_SamePieces c_tollbarref19_SamePieces = true := by kernel_rfl

/- tollbarref19_SameReply -/
def n_tollbarref19_SameReply : Nat := 33
def r_tollbarref19_SameReply_0 : List O :=
  [⟨(some 2), none, .box 10 (.t 0)⟩,
   ⟨(some 3), none, .box 10 (.t 1)⟩,
   ⟨(some 4), none, .mov (.c (.bool false))⟩]
def r_tollbarref19_SameReply_1 : List O :=
  [⟨(some 5), none, .fa 0 (.t 2)⟩,
   ⟨(some 6), none, .load true 2 (.t 5)⟩,
   ⟨(some 7), none, .fa 0 (.t 3)⟩,
   ⟨(some 8), none, .load true 2 (.t 7)⟩,
   ⟨(some 9), none, .eqs false [0, 0] (.t 6) (.t 8)⟩,
   ⟨(some 10), none, .mov (.t 9)⟩,
   ⟨(some 11), (some (10, true)), .fa 2 (.t 2)⟩,
   ⟨(some 12), (some (10, true)), .fa 0 (.t 11)⟩,
   ⟨(some 13), (some (10, true)), .load false 1 (.t 12)⟩,
   ⟨(some 14), (some (10, true)), .fa 2 (.t 3)⟩,
   ⟨(some 15), (some (10, true)), .fa 0 (.t 14)⟩,
   ⟨(some 16), (some (10, true)), .load false 1 (.t 15)⟩,
   ⟨(some 17), (some (10, true)), .bin .eql (.t 13) (.t 16)⟩,
   ⟨(some 18), none, .pick (.t 10) (.t 17) (.c (.bool false))⟩,
   ⟨(some 19), none, .mov (.t 18)⟩,
   ⟨(some 20), (some (19, true)), .fa 2 (.t 2)⟩,
   ⟨(some 21), (some (19, true)), .fa 1 (.t 20)⟩,
   ⟨(some 22), (some (19, true)), .load false 1 (.t 21)⟩,
   ⟨(some 23), (some (19, true)), .fa 2 (.t 3)⟩,
   ⟨(some 24), (some (19, true)), .fa 1 (.t 23)⟩,
   ⟨(some 25), (some (19, true)), .load false 1 (.t 24)⟩,
   ⟨(some 26), (some (19, true)), .call n_tollbarref19_SameInts [(.t 22), (.t 25)]⟩,
   ⟨(some 27), none, .pick (.t 19) (.t 26) (.c (.bool false))⟩,
   ⟨(some 28), none, .mov (.t 27)⟩,
   ⟨(some 29), (some (28, true)), .fa 4 (.t 2)⟩,
   ⟨(some 30), (some (28, true)), .load false 1 (.t 29)⟩,
   ⟨(some 31), (some (28, true)), .fa 4 (.t 3)⟩,
   ⟨(some 32), (some (28, true)), .load false 1 (.t 31)⟩,
   ⟨(some 33), (some (28, true)), .bin .eql (.t 30) (.t 32)⟩,
   ⟨(some 34), none, .pick (.t 28) (.t 33) (.c (.bool false))⟩,
   ⟨(some 35), none, .mov (.t 34)⟩,
   ⟨(some 36), (some (35, true)), .fa 5 (.t 2)⟩,
   ⟨(some 37), (some (35, true)), .load false 1 (.t 36)⟩,
   ⟨(some 38), (some (35, true)), .fa 5 (.t 3)⟩,
   ⟨(some 39), (some (35, true)), .load false 1 (.t 38)⟩,
   ⟨(some 40), (some (35, true)), .bin .eql (.t 37) (.t 39)⟩,
   ⟨(some 41), none, .pick (.t 35) (.t 40) (.c (.bool false))⟩,
   ⟨(some 42), none, .mov (.t 41)⟩,
   ⟨(some 43), (some (42, true)), .fa 6 (.t 2)⟩,
   ⟨(some 44), (some (42, true)), .load false 1 (.t 43)⟩,
   ⟨(some 45), (some (42, true)), .fa 6 (.t 3)⟩,
   ⟨(some 46), (some (42, true)), .load false 1 (.t 45)⟩,
   ⟨(some 47), (some (42, true)), .bin .eql (.t 44) (.t 46)⟩,
   ⟨(some 48), none, .pick (.t 42) (.t 47) (.c (.bool false))⟩,
   ⟨(some 49), none, .mov (.t 48)⟩,
   ⟨(some 50), (some (49, true)), .fa 7 (.t 2)⟩,
   ⟨(some 51), (some (49, true)), .load false 1 (.t 50)⟩,
   ⟨(some 52), (some (49, true)), .fa 7 (.t 3)⟩,
   ⟨(some 53), (some (49, true)), .load false 1 (.t 52)⟩,
   ⟨(some 54), (some (49, true)), .bin .eql (.t 51) (.t 53)⟩,
   ⟨(some 55), none, .pick (.t 49) (.t 54) (.c (.bool false))⟩,
   ⟨(some 56), none, .mov (.t 55)⟩,
   ⟨(some 57), (some (56, true)), .fa 8 (.t 2)⟩,
   ⟨(some 58), (some (56, true)), .load false 1 (.t 57)⟩,
   ⟨(some 59), (some (56, true)), .fa 8 (.t 3)⟩,
   ⟨(some 60), (some (56, true)), .load false 1 (.t 59)⟩,
   ⟨(some 61), (some (56, true)), .bin .eql (.t 58) (.t 60)⟩,
   ⟨(some 62), none, .pick (.t 56) (.t 61) (.c (.bool false))⟩,
   ⟨(some 63), none, .mov (.t 62)⟩,
   ⟨(some 64), (some (63, true)), .fa 9 (.t 2)⟩,
   ⟨(some 65), (some (63, true)), .load false 1 (.t 64)⟩,
   ⟨(some 66), (some (63, true)), .fa 9 (.t 3)⟩,
   ⟨(some 67), (some (63, true)), .load false 1 (.t 66)⟩,
   ⟨(some 68), (some (63, true)), .call n_tollbarref19_SamePieces [(.t 65), (.t 67)]⟩,
   ⟨(some 69), none, .pick (.t 63) (.t 68) (.c (.bool false))⟩,
   ⟨(some 4), none, .mov (.t 69)⟩]
def c_tollbarref19_SameReply : MF := ⟨2, [.t 4], (.seq (.reg r_tollbarref19_SameReply_0 [2, 3]) (.seq (.reg r_tollbarref19_SameReply_1 [4]) .ret))⟩
theorem ok_tollbarref19_SameReply : okFun Try.prog n_tollbarref19_SameReply c_tollbarref19_SameReply = true := by kernel_rfl

/- tollbarref22_ReplyMay -/
def n_tollbarref22_ReplyMay : Nat := 13
def r_tollbarref22_ReplyMay_0 : List O :=
  [⟨(some 1), none, .box 10 (.t 0)⟩,
   ⟨(some 2), none, .mov (.c (.bool false))⟩]
def r_tollbarref22_ReplyMay_1 : List O :=
  [⟨(some 5), none, .fa 4 (.t 1)⟩,
   ⟨(some 6), none, .load false 1 (.t 5)⟩,
   ⟨(some 7), none, .build [(.int .i64 0), (.int .i64 0), (.int .i64 0), (.slice none 0 0), (.int .i64 0), (.int .i64 0), (.int .i64 0), (.int .i64 0), (.int .i64 0), (.slice none 0 0)] [(4, 1, (.t 6))]⟩,
   ⟨(some 3), none, .alloc 29 [(.int .i64 0), (.int .i64 0), (.int .i64 0), (.slice none 0 0), (.int .i64 0), (.int .i64 0), (.int .i64 0), (.int .i64 0), (.int .i64 0), (.slice none 0 0)]⟩,
   ⟨none, none, .store 10 (.t 3) (.t 7)⟩]
def r_tollbarref22_ReplyMay_2 : List O :=
  [⟨(some 4), none, .mov (.c (.bool false))⟩]
def r_tollbarref22_ReplyMay_3 : List O :=
  [⟨(some 8), none, .fa 4 (.t 1)⟩,
   ⟨(some 9), none, .load false 1 (.t 8)⟩]
def r_tollbarref22_ReplyMay_4 : List O :=
  [⟨(some 11), none, .bin .eql (.t 9) (.c (.int .i64 1))⟩,
   ⟨(some 10), none, .mov (.t 11)⟩]
def r_tollbarref22_ReplyMay_5 : List O :=
  [⟨(some 12), none, .fa 5 (.t 1)⟩,
   ⟨(some 13), none, .load false 1 (.t 12)⟩,
   ⟨(some 14), none, .fa 5 (.t 3)⟩,
   ⟨none, none, .store 1 (.t 14) (.t 13)⟩]
def r_tollbarref22_ReplyMay_6 : List O :=
  [⟨(some 15), none, .fa 5 (.t 1)⟩,
   ⟨(some 16), none, .load false 1 (.t 15)⟩,
   ⟨(some 17), none, .bin .geq (.t 16) (.c (.int .i64 1))⟩,
   ⟨(some 18), none, .mov (.t 17)⟩,
   ⟨(some 19), (some (18, true)), .fa 5 (.t 1)⟩,
   ⟨(some 20), (some (18, true)), .load false 1 (.t 19)⟩,
   ⟨(some 21), (some (18, true)), .bin .leq (.t 20) (.c (.int .i64 9))⟩,
   ⟨(some 22), none, .pick (.t 18) (.t 21) (.c (.bool false))⟩,
   ⟨(some 4), none, .mov (.t 22)⟩]
def r_tollbarref22_ReplyMay_7 : List O :=
  [⟨(some 24), none, .bin .eql (.t 9) (.c (.int .i64 2))⟩,
   ⟨(some 23), none, .mov (.t 24)⟩]
def r_tollbarref22_ReplyMay_8 : List O :=
  [⟨(some 25), none, .fa 6 (.t 1)⟩,
   ⟨(some 26), none, .load false 1 (.t 25)⟩,
   ⟨(some 27), none, .fa 6 (.t 3)⟩,
   ⟨none, none, .store 1 (.t 27) (.t 26)⟩]
def r_tollbarref22_ReplyMay_9 : List O :=
  [⟨(some 28), none, .fa 7 (.t 1)⟩,
   ⟨(some 29), none, .load false 1 (.t 28)⟩,
   ⟨(some 30), none, .fa 7 (.t 3)⟩,
   ⟨none, none, .store 1 (.t 30) (.t 29)⟩]
def r_tollbarref22_ReplyMay_10 : List O :=
  [⟨(some 31), none, .fa 0 (.t 1)⟩,
   ⟨(some 32), none, .load true 2 (.t 31)⟩,
   ⟨(some 33), none, .fa 0 (.t 3)⟩,
   ⟨none, none, .store 2 (.t 33) (.t 32)⟩]
def r_tollbarref22_ReplyMay_11 : List O :=
  [⟨(some 34), none, .fa 9 (.t 1)⟩,
   ⟨(some 35), none, .load false 1 (.t 34)⟩,
   ⟨(some 36), none, .fa 9 (.t 3)⟩,
   ⟨none, none, .store 1 (.t 36) (.t 35)⟩]
def r_tollbarref22_ReplyMay_12 : List O :=
  [⟨(some 37), none, .load true 10 (.t 1)⟩,
   ⟨(some 38), none, .call n_tollbarref22_grantMay [(.t 37)]⟩,
   ⟨(some 4), none, .mov (.t 38)⟩]
def r_tollbarref22_ReplyMay_13 : List O :=
  [⟨(some 40), none, .bin .eql (.t 9) (.c (.int .i64 3))⟩,
   ⟨(some 39), none, .mov (.t 40)⟩]
def r_tollbarref22_ReplyMay_14 : List O :=
  [⟨(some 41), none, .fa 2 (.t 1)⟩,
   ⟨(some 42), none, .load true 2 (.t 41)⟩,
   ⟨(some 43), none, .fa 2 (.t 3)⟩,
   ⟨none, none, .store 2 (.t 43) (.t 42)⟩]
def r_tollbarref22_ReplyMay_15 : List O :=
  [⟨(some 44), none, .fa 2 (.t 1)⟩,
   ⟨(some 45), none, .load true 2 (.t 44)⟩,
   ⟨(some 46), none, .call n_tollbarref22_cutMay [(.t 45)]⟩,
   ⟨(some 4), none, .mov (.t 46)⟩]
def r_tollbarref22_ReplyMay_16 : List O :=
  [⟨(some 48), none, .bin .eql (.t 9) (.c (.int .i64 4))⟩,
   ⟨(some 47), none, .mov (.t 48)⟩]
def r_tollbarref22_ReplyMay_17 : List O :=
  [⟨(some 4), none, .mov (.c (.bool true))⟩]
def r_tollbarref22_ReplyMay_18 : List O :=
  [⟨(some 50), none, .bin .eql (.t 9) (.c (.int .i64 5))⟩,
   ⟨(some 49), none, .mov (.t 50)⟩]
def r_tollbarref22_ReplyMay_19 : List O :=
  [⟨(some 51), none, .fa 8 (.t 1)⟩,
   ⟨(some 52), none, .load false 1 (.t 51)⟩,
   ⟨(some 53), none, .fa 8 (.t 3)⟩,
   ⟨none, none, .store 1 (.t 53) (.t 52)⟩]
def r_tollbarref22_ReplyMay_20 : List O :=
  [⟨(some 54), none, .fa 8 (.t 1)⟩,
   ⟨(some 55), none, .load false 1 (.t 54)⟩,
   ⟨(some 56), none, .call n_tollbarref1_Rate [(.t 55)]⟩,
   ⟨(some 4), none, .mov (.t 56)⟩]
def r_tollbarref22_ReplyMay_21 : List O :=
  [⟨(some 57), none, .mov (.t 4)⟩,
   ⟨(some 58), none, .mov (.t 57)⟩,
   ⟨(some 59), (some (58, true)), .load true 10 (.t 3)⟩,
   ⟨(some 60), (some (58, true)), .load true 10 (.t 1)⟩,
   ⟨(some 61), (some (58, true)), .call n_tollbarref19_SameReply [(.t 59), (.t 60)]⟩,
   ⟨(some 62), none, .pick (.t 58) (.t 61) (.c (.bool false))⟩,
   ⟨(some 2), none, .mov (.t 62)⟩]
def c_tollbarref22_ReplyMay : MF := ⟨1, [.t 2], (.seq (.reg r_tollbarref22_ReplyMay_0 [1]) (.seq (.reg r_tollbarref22_ReplyMay_1 [1, 3]) (.seq (.reg r_tollbarref22_ReplyMay_2 [1, 3, 4]) (.seq (.seq (.reg r_tollbarref22_ReplyMay_3 [1, 3, 4, 9]) (.blk 0 (.seq (.reg r_tollbarref22_ReplyMay_4 [1, 3, 4, 9, 10]) (.cond (.t 10) (.seq (.reg r_tollbarref22_ReplyMay_5 [1, 3]) (.reg r_tollbarref22_ReplyMay_6 [1, 3, 4])) (.seq (.reg r_tollbarref22_ReplyMay_7 [1, 3, 4, 9, 23]) (.cond (.t 23) (.seq (.reg r_tollbarref22_ReplyMay_8 [1, 3]) (.seq (.reg r_tollbarref22_ReplyMay_9 [1, 3]) (.seq (.reg r_tollbarref22_ReplyMay_10 [1, 3]) (.seq (.reg r_tollbarref22_ReplyMay_11 [1, 3]) (.reg r_tollbarref22_ReplyMay_12 [1, 3, 4]))))) (.seq (.reg r_tollbarref22_ReplyMay_13 [1, 3, 4, 9, 39]) (.cond (.t 39) (.seq (.reg r_tollbarref22_ReplyMay_14 [1, 3]) (.reg r_tollbarref22_ReplyMay_15 [1, 3, 4])) (.seq (.reg r_tollbarref22_ReplyMay_16 [1, 3, 4, 9, 47]) (.cond (.t 47) (.reg r_tollbarref22_ReplyMay_17 [1, 3, 4]) (.seq (.reg r_tollbarref22_ReplyMay_18 [1, 3, 4, 49]) (.cond (.t 49) (.seq (.reg r_tollbarref22_ReplyMay_19 [1, 3]) (.reg r_tollbarref22_ReplyMay_20 [1, 3, 4])) .skip)))))))))))) (.seq (.reg r_tollbarref22_ReplyMay_21 [2]) .ret)))))⟩
theorem ok_tollbarref22_ReplyMay : okFun Try.prog n_tollbarref22_ReplyMay c_tollbarref22_ReplyMay = true := by kernel_rfl

/- tollbarref1_Put -/
def n_tollbarref1_Put : Nat := 24
def r_tollbarref1_Put_0 : List O :=
  [⟨(some 2), none, .mov (.c (.string .empty))⟩,
   ⟨(some 3), none, .mov (.c (.int .i64 0))⟩]
def r_tollbarref1_Put_1 : List O :=
  [⟨(some 4), none, .mov (.c (.string .empty))⟩]
def r_tollbarref1_Put_2 : List O :=
  [⟨(some 5), none, .mov (.c (.int .i64 0))⟩]
def r_tollbarref1_Put_3 : List O :=
  [⟨(some 8), none, .mov (.t 5)⟩,
   ⟨(some 9), none, .mov (.t 0)⟩,
   ⟨(some 10), none, .len (.t 9)⟩,
   ⟨(some 11), none, .bin .lss (.t 8) (.t 10)⟩]
def r_tollbarref1_Put_4 : List O :=
  [⟨(some 14), none, .mov (.t 0)⟩,
   ⟨(some 15), none, .mov (.t 5)⟩,
   ⟨(some 16), none, .ia 1 (.t 14) (.t 15)⟩,
   ⟨(some 17), none, .load false 1 (.t 16)⟩,
   ⟨(some 18), none, .call n_tollbarref1_Rate [(.t 17)]⟩,
   ⟨(some 19), none, .un .not (.t 18)⟩]
def r_tollbarref1_Put_5 : List O :=
  [⟨(some 2), none, .mov (.c (.string .empty))⟩,
   ⟨(some 3), none, .mov (.c (.int .i64 300))⟩]
def r_tollbarref1_Put_6 : List O :=
  [⟨(some 6), none, .mov (.c (.string .empty))⟩]
def r_tollbarref1_Put_7 : List O :=
  [⟨(some 20), none, .mov (.t 0)⟩,
   ⟨(some 21), none, .mov (.t 5)⟩,
   ⟨(some 22), none, .ia 1 (.t 20) (.t 21)⟩,
   ⟨(some 23), none, .load false 1 (.t 22)⟩,
   ⟨(some 7), none, .mov (.t 23)⟩]
def r_tollbarref1_Put_8 : List O :=
  [⟨(some 24), none, .mov (.t 7)⟩,
   ⟨(some 25), none, .bin .gtr (.t 24) (.c (.int .i64 0))⟩]
def r_tollbarref1_Put_9 : List O :=
  [⟨(some 28), none, .mov (.t 7)⟩,
   ⟨(some 29), none, .bin .rem (.t 28) (.c (.int .i64 256))⟩,
   ⟨(some 30), none, .conv .u8 (.t 29)⟩,
   ⟨(some 31), none, .bsl 1 [(.int .u8 0)] 1 [(0, (.t 30))]⟩,
   ⟨(some 32), none, .b2s (.t 31)⟩,
   ⟨(some 33), none, .mov (.t 6)⟩,
   ⟨(some 34), none, .bin .add (.t 32) (.t 33)⟩,
   ⟨(some 6), none, .mov (.t 34)⟩]
def r_tollbarref1_Put_10 : List O :=
  [⟨(some 26), none, .mov (.t 7)⟩,
   ⟨(some 27), none, .bin .quo (.t 26) (.c (.int .i64 256))⟩,
   ⟨(some 7), none, .mov (.t 27)⟩]
def l_tollbarref1_Put_0 : C := (.seq (.seq (.reg r_tollbarref1_Put_8 [0, 4, 5, 6, 7, 25]) (.cond (.t 25) .skip (.exit 2))) (.seq (.blk 3 (.reg r_tollbarref1_Put_9 [0, 4, 5, 6, 7])) (.reg r_tollbarref1_Put_10 [0, 4, 5, 6, 7])))
def r_tollbarref1_Put_11 : List O :=
  [⟨(some 35), none, .mov (.t 4)⟩,
   ⟨(some 36), none, .mov (.t 6)⟩,
   ⟨(some 37), none, .lens (.t 36)⟩,
   ⟨(some 38), none, .conv .u8 (.t 37)⟩,
   ⟨(some 39), none, .bsl 1 [(.int .u8 0)] 1 [(0, (.t 38))]⟩,
   ⟨(some 40), none, .b2s (.t 39)⟩,
   ⟨(some 41), none, .bin .add (.t 35) (.t 40)⟩,
   ⟨(some 42), none, .mov (.t 6)⟩,
   ⟨(some 43), none, .bin .add (.t 41) (.t 42)⟩,
   ⟨(some 4), none, .mov (.t 43)⟩]
def r_tollbarref1_Put_12 : List O :=
  [⟨(some 12), none, .mov (.t 5)⟩,
   ⟨(some 13), none, .bin .add (.t 12) (.c (.int .i64 1))⟩,
   ⟨(some 5), none, .mov (.t 13)⟩]
def l_tollbarref1_Put_1 : C := (.seq (.seq (.reg r_tollbarref1_Put_3 [0, 4, 5, 11]) (.cond (.t 11) .skip (.exit 0))) (.seq (.blk 1 (.seq (.seq (.reg r_tollbarref1_Put_4 [0, 4, 5, 19]) (.cond (.t 19) (.seq (.reg r_tollbarref1_Put_5 [2, 3]) .ret) .skip)) (.seq (.reg r_tollbarref1_Put_6 [0, 4, 5, 6]) (.seq (.seq (.reg r_tollbarref1_Put_7 [0, 4, 5, 6, 7]) (.blk 2 (.loop l_tollbarref1_Put_0))) (.reg r_tollbarref1_Put_11 [0, 4, 5]))))) (.reg r_tollbarref1_Put_12 [0, 4, 5])))
def r_tollbarref1_Put_13 : List O :=
  [⟨(some 44), none, .mov (.t 4)⟩,
   ⟨(some 2), none, .mov (.t 44)⟩,
   ⟨(some 3), none, .mov (.c (.int .i64 0))⟩]
def c_tollbarref1_Put : MF := ⟨1, [.t 2, .t 3], (.seq (.reg r_tollbarref1_Put_0 [0]) (.seq (.reg r_tollbarref1_Put_1 [0, 4]) (.seq (.seq (.reg r_tollbarref1_Put_2 [0, 4, 5]) (.blk 0 (.loop l_tollbarref1_Put_1))) (.seq (.reg r_tollbarref1_Put_13 [2, 3]) .ret))))⟩
theorem ok_tollbarref1_Put : okFun Try.prog n_tollbarref1_Put c_tollbarref1_Put = true := by kernel_rfl

/- tollbarref22_WriteTell -/
def n_tollbarref22_WriteTell : Nat := 10
def r_tollbarref22_WriteTell_0 : List O :=
  [⟨(some 1), none, .box 10 (.t 0)⟩,
   ⟨(some 2), none, .mov (.c (.string .empty))⟩,
   ⟨(some 3), none, .mov (.c (.int .i64 0))⟩]
def r_tollbarref22_WriteTell_1 : List O :=
  [⟨(some 10), none, .load true 10 (.t 1)⟩,
   ⟨(some 11), none, .call n_tollbarref22_ReplyMay [(.t 10)]⟩,
   ⟨(some 12), none, .un .not (.t 11)⟩]
def r_tollbarref22_WriteTell_2 : List O :=
  [⟨(some 2), none, .mov (.c (.string .empty))⟩,
   ⟨(some 3), none, .mov (.c (.int .i64 2300))⟩]
def r_tollbarref22_WriteTell_3 : List O :=
  [⟨(some 13), none, .fa 4 (.t 1)⟩,
   ⟨(some 14), none, .load false 1 (.t 13)⟩,
   ⟨(some 15), none, .bsl 1 [(.int .i64 0)] 1 [(0, (.t 14))]⟩,
   ⟨(some 4), none, .mov (.t 15)⟩]
def r_tollbarref22_WriteTell_4 : List O :=
  [⟨(some 16), none, .fa 4 (.t 1)⟩,
   ⟨(some 17), none, .load false 1 (.t 16)⟩]
def r_tollbarref22_WriteTell_5 : List O :=
  [⟨(some 19), none, .bin .eql (.t 17) (.c (.int .i64 1))⟩,
   ⟨(some 18), none, .mov (.t 19)⟩]
def r_tollbarref22_WriteTell_6 : List O :=
  [⟨(some 20), none, .mov (.t 4)⟩,
   ⟨(some 21), none, .fa 5 (.t 1)⟩,
   ⟨(some 22), none, .load false 1 (.t 21)⟩,
   ⟨(some 23), none, .bsl 1 [(.int .i64 0)] 1 [(0, (.t 22))]⟩,
   ⟨(some 24), none, .app 3 1 8 (.t 20) (.t 23)⟩,
   ⟨(some 4), none, .mov (.t 24)⟩]
def r_tollbarref22_WriteTell_7 : List O :=
  [⟨(some 26), none, .bin .eql (.t 17) (.c (.int .i64 2))⟩,
   ⟨(some 25), none, .mov (.t 26)⟩]
def r_tollbarref22_WriteTell_8 : List O :=
  [⟨(some 27), none, .mov (.t 4)⟩,
   ⟨(some 28), none, .fa 6 (.t 1)⟩,
   ⟨(some 29), none, .load false 1 (.t 28)⟩,
   ⟨(some 30), none, .fa 7 (.t 1)⟩,
   ⟨(some 31), none, .load false 1 (.t 30)⟩,
   ⟨(some 32), none, .fa 0 (.t 1)⟩,
   ⟨(some 33), none, .fa 0 (.t 32)⟩,
   ⟨(some 34), none, .load false 1 (.t 33)⟩,
   ⟨(some 35), none, .fa 0 (.t 1)⟩,
   ⟨(some 36), none, .fa 1 (.t 35)⟩,
   ⟨(some 37), none, .load false 1 (.t 36)⟩,
   ⟨(some 38), none, .fa 9 (.t 1)⟩,
   ⟨(some 39), none, .load false 1 (.t 38)⟩,
   ⟨(some 40), none, .len (.t 39)⟩,
   ⟨(some 41), none, .bsl 1 [(.int .i64 0)] 5 [(0, (.t 29)), (1, (.t 31)), (2, (.t 34)), (3, (.t 37)), (4, (.t 40))]⟩,
   ⟨(some 42), none, .app 3 1 8 (.t 27) (.t 41)⟩,
   ⟨(some 4), none, .mov (.t 42)⟩]
def r_tollbarref22_WriteTell_9 : List O :=
  [⟨(some 5), none, .mov (.c (.int .i64 0))⟩]
def r_tollbarref22_WriteTell_10 : List O :=
  [⟨(some 43), none, .mov (.t 5)⟩,
   ⟨(some 44), none, .fa 9 (.t 1)⟩,
   ⟨(some 45), none, .load false 1 (.t 44)⟩,
   ⟨(some 46), none, .len (.t 45)⟩,
   ⟨(some 47), none, .bin .lss (.t 43) (.t 46)⟩]
def r_tollbarref22_WriteTell_11 : List O :=
  [⟨(some 50), none, .fa 9 (.t 1)⟩,
   ⟨(some 51), none, .load false 1 (.t 50)⟩,
   ⟨(some 52), none, .mov (.t 5)⟩,
   ⟨(some 53), none, .ia 3 (.t 51) (.t 52)⟩,
   ⟨(some 54), none, .load true 3 (.t 53)⟩,
   ⟨(some 6), none, .alloc 52 [(.int .i64 0), (.int .i64 0), (.slice none 0 0)]⟩,
   ⟨none, none, .store 3 (.t 6) (.t 54)⟩]
def r_tollbarref22_WriteTell_12 : List O :=
  [⟨(some 55), none, .mov (.t 4)⟩,
   ⟨(some 56), none, .fa 0 (.t 6)⟩,
   ⟨(some 57), none, .fa 0 (.t 56)⟩,
   ⟨(some 58), none, .load false 1 (.t 57)⟩,
   ⟨(some 59), none, .fa 0 (.t 6)⟩,
   ⟨(some 60), none, .fa 1 (.t 59)⟩,
   ⟨(some 61), none, .load false 1 (.t 60)⟩,
   ⟨(some 62), none, .fa 2 (.t 6)⟩,
   ⟨(some 63), none, .load false 1 (.t 62)⟩,
   ⟨(some 64), none, .len (.t 63)⟩,
   ⟨(some 65), none, .bsl 1 [(.int .i64 0)] 3 [(0, (.t 58)), (1, (.t 61)), (2, (.t 64))]⟩,
   ⟨(some 66), none, .app 3 1 8 (.t 55) (.t 65)⟩,
   ⟨(some 4), none, .mov (.t 66)⟩]
def r_tollbarref22_WriteTell_13 : List O :=
  [⟨(some 7), none, .mov (.c (.int .i64 0))⟩]
def r_tollbarref22_WriteTell_14 : List O :=
  [⟨(some 67), none, .mov (.t 7)⟩,
   ⟨(some 68), none, .fa 2 (.t 6)⟩,
   ⟨(some 69), none, .load false 1 (.t 68)⟩,
   ⟨(some 70), none, .len (.t 69)⟩,
   ⟨(some 71), none, .bin .lss (.t 67) (.t 70)⟩]
def r_tollbarref22_WriteTell_15 : List D :=
  [⟨⟨(some 74), none, .mov (.t 4)⟩, []⟩,
   ⟨⟨(some 75), none, .fa 2 (.t 6)⟩, []⟩,
   ⟨⟨(some 76), none, .load false 1 (.t 75)⟩, []⟩,
   ⟨⟨(some 77), none, .mov (.t 7)⟩, []⟩,
   ⟨⟨(some 78), none, .ia 2 (.t 76) (.t 77)⟩, []⟩,
   ⟨⟨(some 79), none, .fa 0 (.t 78)⟩, []⟩,
   ⟨⟨(some 80), none, .load false 1 (.t 79)⟩, []⟩,
   ⟨⟨(some 81), none, .fa 2 (.t 6)⟩, []⟩,
   ⟨⟨(some 82), none, .load false 1 (.t 81)⟩, []⟩,
   ⟨⟨(some 83), none, .mov (.t 7)⟩, []⟩,
   ⟨⟨(some 84), none, .ia 2 (.t 82) (.t 83)⟩, []⟩,
   ⟨⟨(some 85), none, .fa 1 (.t 84)⟩, []⟩,
   ⟨⟨(some 86), none, .load false 1 (.t 85)⟩, []⟩,
   ⟨⟨(some 87), none, .len (.t 86)⟩, []⟩,
   ⟨⟨(some 88), none, .bsl 1 [(.int .i64 0)] 2 [(0, (.t 80)), (1, (.t 87))]⟩, []⟩,
   ⟨⟨(some 89), none, .app 3 1 8 (.t 74) (.t 88)⟩, []⟩,
   ⟨⟨(some 4), none, .mov (.t 89)⟩, []⟩]
def r_tollbarref22_WriteTell_16 : List O :=
  [⟨(some 90), none, .mov (.t 4)⟩,
   ⟨(some 91), none, .fa 2 (.t 6)⟩,
   ⟨(some 92), none, .load false 1 (.t 91)⟩,
   ⟨(some 93), none, .mov (.t 7)⟩,
   ⟨(some 94), none, .ia 2 (.t 92) (.t 93)⟩,
   ⟨(some 95), none, .fa 1 (.t 94)⟩,
   ⟨(some 96), none, .load false 1 (.t 95)⟩,
   ⟨(some 97), none, .app 3 1 8 (.t 90) (.t 96)⟩,
   ⟨(some 4), none, .mov (.t 97)⟩]
def r_tollbarref22_WriteTell_17 : List O :=
  [⟨(some 72), none, .mov (.t 7)⟩,
   ⟨(some 73), none, .bin .add (.t 72) (.c (.int .i64 1))⟩,
   ⟨(some 7), none, .mov (.t 73)⟩]
def l_tollbarref22_WriteTell_0 : C := (.seq (.seq (.reg r_tollbarref22_WriteTell_14 [1, 4, 5, 6, 7, 71]) (.cond (.t 71) .skip (.exit 3))) (.seq (.blk 4 (.seq (.dreg r_tollbarref22_WriteTell_15 [1, 4, 5, 6, 7]) (.reg r_tollbarref22_WriteTell_16 [1, 4, 5, 6, 7]))) (.reg r_tollbarref22_WriteTell_17 [1, 4, 5, 6, 7])))
def r_tollbarref22_WriteTell_18 : List O :=
  [⟨(some 48), none, .mov (.t 5)⟩,
   ⟨(some 49), none, .bin .add (.t 48) (.c (.int .i64 1))⟩,
   ⟨(some 5), none, .mov (.t 49)⟩]
def l_tollbarref22_WriteTell_1 : C := (.seq (.seq (.reg r_tollbarref22_WriteTell_10 [1, 4, 5, 47]) (.cond (.t 47) .skip (.exit 1))) (.seq (.blk 2 (.seq (.reg r_tollbarref22_WriteTell_11 [1, 4, 5, 6]) (.seq (.reg r_tollbarref22_WriteTell_12 [1, 4, 5, 6]) (.seq (.reg r_tollbarref22_WriteTell_13 [1, 4, 5, 6, 7]) (.blk 3 (.loop l_tollbarref22_WriteTell_0)))))) (.reg r_tollbarref22_WriteTell_18 [1, 4, 5])))
def r_tollbarref22_WriteTell_19 : List O :=
  [⟨(some 99), none, .bin .eql (.t 17) (.c (.int .i64 3))⟩,
   ⟨(some 98), none, .mov (.t 99)⟩]
def r_tollbarref22_WriteTell_20 : List O :=
  [⟨(some 100), none, .mov (.t 4)⟩,
   ⟨(some 101), none, .fa 2 (.t 1)⟩,
   ⟨(some 102), none, .fa 0 (.t 101)⟩,
   ⟨(some 103), none, .load false 1 (.t 102)⟩,
   ⟨(some 104), none, .fa 2 (.t 1)⟩,
   ⟨(some 105), none, .fa 1 (.t 104)⟩,
   ⟨(some 106), none, .load false 1 (.t 105)⟩,
   ⟨(some 107), none, .len (.t 106)⟩,
   ⟨(some 108), none, .bsl 1 [(.int .i64 0)] 2 [(0, (.t 103)), (1, (.t 107))]⟩,
   ⟨(some 109), none, .app 3 1 8 (.t 100) (.t 108)⟩,
   ⟨(some 4), none, .mov (.t 109)⟩]
def r_tollbarref22_WriteTell_21 : List O :=
  [⟨(some 110), none, .mov (.t 4)⟩,
   ⟨(some 111), none, .fa 2 (.t 1)⟩,
   ⟨(some 112), none, .fa 1 (.t 111)⟩,
   ⟨(some 113), none, .load false 1 (.t 112)⟩,
   ⟨(some 114), none, .app 3 1 8 (.t 110) (.t 113)⟩,
   ⟨(some 4), none, .mov (.t 114)⟩]
def r_tollbarref22_WriteTell_22 : List O :=
  [⟨(some 116), none, .bin .eql (.t 17) (.c (.int .i64 5))⟩,
   ⟨(some 115), none, .mov (.t 116)⟩]
def r_tollbarref22_WriteTell_23 : List O :=
  [⟨(some 117), none, .mov (.t 4)⟩,
   ⟨(some 118), none, .fa 8 (.t 1)⟩,
   ⟨(some 119), none, .load false 1 (.t 118)⟩,
   ⟨(some 120), none, .bsl 1 [(.int .i64 0)] 1 [(0, (.t 119))]⟩,
   ⟨(some 121), none, .app 3 1 8 (.t 117) (.t 120)⟩,
   ⟨(some 4), none, .mov (.t 121)⟩]
def r_tollbarref22_WriteTell_24 : List O :=
  [⟨(some 123), none, .mov (.t 4)⟩,
   ⟨(some 124), none, .call n_tollbarref1_Put [(.t 123)]⟩,
   ⟨(some 122), none, .mov (.t 124)⟩,
   ⟨(some 125), none, .ext (.t 122) 0⟩,
   ⟨(some 126), none, .ext (.t 122) 1⟩,
   ⟨(some 8), none, .mov (.t 125)⟩,
   ⟨(some 9), none, .mov (.t 126)⟩]
def r_tollbarref22_WriteTell_25 : List O :=
  [⟨(some 127), none, .mov (.t 8)⟩,
   ⟨(some 2), none, .mov (.t 127)⟩,
   ⟨(some 3), none, .mov (.c (.int .i64 0))⟩]
def c_tollbarref22_WriteTell : MF := ⟨1, [.t 2, .t 3], (.seq (.reg r_tollbarref22_WriteTell_0 [1]) (.seq (.seq (.reg r_tollbarref22_WriteTell_1 [1, 12]) (.cond (.t 12) (.seq (.reg r_tollbarref22_WriteTell_2 [2, 3]) .ret) .skip)) (.seq (.reg r_tollbarref22_WriteTell_3 [1, 4]) (.seq (.seq (.reg r_tollbarref22_WriteTell_4 [1, 4, 17]) (.blk 0 (.seq (.reg r_tollbarref22_WriteTell_5 [1, 4, 17, 18]) (.cond (.t 18) (.reg r_tollbarref22_WriteTell_6 [4]) (.seq (.reg r_tollbarref22_WriteTell_7 [1, 4, 17, 25]) (.cond (.t 25) (.seq (.reg r_tollbarref22_WriteTell_8 [1, 4]) (.seq (.reg r_tollbarref22_WriteTell_9 [1, 4, 5]) (.blk 1 (.loop l_tollbarref22_WriteTell_1)))) (.seq (.reg r_tollbarref22_WriteTell_19 [1, 4, 17, 98]) (.cond (.t 98) (.seq (.reg r_tollbarref22_WriteTell_20 [1, 4]) (.reg r_tollbarref22_WriteTell_21 [4])) (.seq (.reg r_tollbarref22_WriteTell_22 [1, 4, 115]) (.cond (.t 115) (.reg r_tollbarref22_WriteTell_23 [4]) .skip)))))))))) (.seq (.reg r_tollbarref22_WriteTell_24 [8]) (.seq (.reg r_tollbarref22_WriteTell_25 [2, 3]) .ret))))))⟩
theorem ok_tollbarref22_WriteTell : okFun Try.prog n_tollbarref22_WriteTell c_tollbarref22_WriteTell = true := by kernel_rfl

/- word_Get -/
def n_word_Get : Nat := 50
def r_word_Get_0 : List O :=
  [⟨(some 4), none, .mov (.c (.int .i64 0))⟩,
   ⟨(some 5), none, .mov (.c (.int .i64 0))⟩,
   ⟨(some 6), none, .mov (.c (.int .i64 0))⟩]
def r_word_Get_1 : List O :=
  [⟨(some 13), none, .mov (.t 1)⟩,
   ⟨(some 14), none, .bin .lss (.t 13) (.c (.int .i64 0))⟩,
   ⟨(some 15), none, .mov (.t 14)⟩,
   ⟨(some 16), (some (15, false)), .mov (.t 1)⟩,
   ⟨(some 17), (some (15, false)), .mov (.t 0)⟩,
   ⟨(some 18), (some (15, false)), .lens (.t 17)⟩,
   ⟨(some 19), (some (15, false)), .bin .gtr (.t 16) (.t 18)⟩,
   ⟨(some 20), none, .pick (.t 15) (.c (.bool true)) (.t 19)⟩,
   ⟨(some 12), none, .mov (.t 20)⟩]
def r_word_Get_2 : List O :=
  [⟨(some 4), none, .mov (.c (.int .i64 0))⟩,
   ⟨(some 5), none, .mov (.c (.int .i64 0))⟩,
   ⟨(some 6), none, .mov (.c (.int .i64 300))⟩]
def r_word_Get_3 : List O :=
  [⟨(some 22), none, .mov (.t 1)⟩,
   ⟨(some 23), none, .mov (.t 0)⟩,
   ⟨(some 24), none, .lens (.t 23)⟩,
   ⟨(some 25), none, .bin .eql (.t 22) (.t 24)⟩,
   ⟨(some 21), none, .mov (.t 25)⟩]
def r_word_Get_4 : List O :=
  [⟨(some 4), none, .mov (.c (.int .i64 0))⟩,
   ⟨(some 5), none, .mov (.c (.int .i64 0))⟩,
   ⟨(some 6), none, .mov (.c (.int .i64 301))⟩]
def r_word_Get_5 : List D :=
  [⟨⟨(some 26), none, .mov (.t 0)⟩, []⟩,
   ⟨⟨(some 27), none, .mov (.t 1)⟩, []⟩,
   ⟨⟨(some 28), none, .idx (.t 26) (.t 27)⟩, []⟩,
   ⟨⟨(some 29), none, .conv .i64 (.t 28)⟩, []⟩,
   ⟨⟨(some 30), none, .mov (.t 0)⟩, []⟩,
   ⟨⟨(some 31), none, .mov (.t 1)⟩, []⟩,
   ⟨⟨(some 32), none, .bin .add (.t 31) (.c (.int .i64 1))⟩, []⟩,
   ⟨⟨(some 33), none, .sls (.t 30) (some (.t 32)) none⟩, []⟩,
   ⟨⟨(some 7), none, .mov (.t 29)⟩, []⟩,
   ⟨⟨(some 8), none, .mov (.t 33)⟩, []⟩]
def r_word_Get_6 : List O :=
  [⟨(some 35), none, .mov (.t 7)⟩,
   ⟨(some 36), none, .bin .gtr (.t 35) (.c (.int .i64 8))⟩,
   ⟨(some 34), none, .mov (.t 36)⟩]
def r_word_Get_7 : List O :=
  [⟨(some 4), none, .mov (.c (.int .i64 0))⟩,
   ⟨(some 5), none, .mov (.c (.int .i64 0))⟩,
   ⟨(some 6), none, .mov (.c (.int .i64 300))⟩]
def r_word_Get_8 : List O :=
  [⟨(some 38), none, .mov (.t 7)⟩,
   ⟨(some 39), none, .mov (.t 8)⟩,
   ⟨(some 40), none, .lens (.t 39)⟩,
   ⟨(some 41), none, .bin .gtr (.t 38) (.t 40)⟩,
   ⟨(some 37), none, .mov (.t 41)⟩]
def r_word_Get_9 : List O :=
  [⟨(some 4), none, .mov (.c (.int .i64 0))⟩,
   ⟨(some 5), none, .mov (.c (.int .i64 0))⟩,
   ⟨(some 6), none, .mov (.c (.int .i64 301))⟩]
def r_word_Get_10 : List O :=
  [⟨(some 9), none, .mov (.c (.int .u64 0))⟩]
def r_word_Get_11 : List O :=
  [⟨(some 42), none, .mov (.t 8)⟩,
   ⟨(some 43), none, .mov (.t 7)⟩,
   ⟨(some 44), none, .sls (.t 42) none (some (.t 43))⟩,
   ⟨(some 45), none, .s2b (.t 44)⟩,
   ⟨(some 46), none, .len (.t 45)⟩,
   ⟨(some 47), none, .mov (.c (.int .i64 0))⟩]
def r_word_Get_12 : List O :=
  [⟨(some 48), none, .bin .lss (.t 47) (.t 46)⟩]
def r_word_Get_13 : List O :=
  [⟨(some 49), none, .ia 1 (.t 45) (.t 47)⟩,
   ⟨(some 50), none, .load false 1 (.t 49)⟩,
   ⟨(some 11), none, .mov (.t 50)⟩]
def r_word_Get_14 : List O :=
  [⟨(some 51), none, .mov (.t 9)⟩,
   ⟨(some 52), none, .bin .shl (.t 51) (.c (.int .u64 8))⟩,
   ⟨(some 53), none, .mov (.t 11)⟩,
   ⟨(some 54), none, .conv .u64 (.t 53)⟩,
   ⟨(some 55), none, .bin .or (.t 52) (.t 54)⟩,
   ⟨(some 9), none, .mov (.t 55)⟩]
def r_word_Get_15 : List O :=
  [⟨(some 56), none, .bin .add (.t 47) (.c (.int .i64 1))⟩,
   ⟨(some 47), none, .mov (.t 56)⟩]
def l_word_Get_0 : C := (.seq (.reg r_word_Get_12 [1, 7, 9, 45, 46, 47, 48]) (.seq (.cond (.t 48) .skip (.exit 2)) (.seq (.blk 3 (.seq (.reg r_word_Get_13 [1, 7, 9, 11, 45, 46, 47]) (.reg r_word_Get_14 [1, 7, 9, 45, 46, 47]))) (.reg r_word_Get_15 [1, 7, 9, 45, 46, 47]))))
def r_word_Get_16 : List O :=
  [⟨(some 57), none, .mov (.t 9)⟩,
   ⟨(some 58), none, .bin .gtr (.t 57) (.c (.int .u64 4611686018427387904))⟩,
   ⟨(some 59), none, .mov (.t 58)⟩,
   ⟨(some 60), (some (59, false)), .mov (.t 9)⟩,
   ⟨(some 61), (some (59, false)), .conv .i64 (.t 60)⟩,
   ⟨(some 62), (some (59, false)), .call n_word_size [(.t 61)]⟩,
   ⟨(some 63), (some (59, false)), .mov (.t 7)⟩,
   ⟨(some 64), (some (59, false)), .bin .neq (.t 62) (.t 63)⟩,
   ⟨(some 65), none, .pick (.t 59) (.c (.bool true)) (.t 64)⟩]
def r_word_Get_17 : List O :=
  [⟨(some 4), none, .mov (.c (.int .i64 0))⟩,
   ⟨(some 5), none, .mov (.c (.int .i64 0))⟩,
   ⟨(some 6), none, .mov (.c (.int .i64 300))⟩]
def r_word_Get_18 : List O :=
  [⟨(some 66), none, .mov (.t 9)⟩,
   ⟨(some 67), none, .conv .i64 (.t 66)⟩,
   ⟨(some 68), none, .mov (.t 1)⟩,
   ⟨(some 69), none, .bin .add (.t 68) (.c (.int .i64 1))⟩,
   ⟨(some 70), none, .mov (.t 7)⟩,
   ⟨(some 71), none, .bin .add (.t 69) (.t 70)⟩,
   ⟨(some 4), none, .mov (.t 67)⟩,
   ⟨(some 5), none, .mov (.t 71)⟩,
   ⟨(some 6), none, .mov (.c (.int .i64 0))⟩]
def c_word_Get : MF := ⟨2, [.t 4, .t 5, .t 6], (.seq (.reg r_word_Get_0 [0, 1]) (.seq (.blk 0 (.seq (.reg r_word_Get_1 [0, 1, 12]) (.cond (.t 12) (.seq (.reg r_word_Get_2 [4, 5, 6]) .ret) (.seq (.reg r_word_Get_3 [0, 1, 21]) (.cond (.t 21) (.seq (.reg r_word_Get_4 [4, 5, 6]) .ret) .skip))))) (.seq (.dreg r_word_Get_5 [1, 7, 8]) (.seq (.blk 1 (.seq (.reg r_word_Get_6 [1, 7, 8, 34]) (.cond (.t 34) (.seq (.reg r_word_Get_7 [4, 5, 6]) .ret) (.seq (.reg r_word_Get_8 [1, 7, 8, 37]) (.cond (.t 37) (.seq (.reg r_word_Get_9 [4, 5, 6]) .ret) .skip))))) (.seq (.reg r_word_Get_10 [1, 7, 8, 9]) (.seq (.seq (.reg r_word_Get_11 [1, 7, 9, 45, 46, 47]) (.blk 2 (.loop l_word_Get_0))) (.seq (.seq (.reg r_word_Get_16 [1, 7, 9, 65]) (.cond (.t 65) (.seq (.reg r_word_Get_17 [4, 5, 6]) .ret) .skip)) (.seq (.reg r_word_Get_18 [4, 5, 6]) .ret))))))))⟩
theorem ok_word_Get : okFun Try.prog n_word_Get c_word_Get = true := by kernel_rfl

/- word_List -/
def n_word_List : Nat := 34
def r_word_List_0 : List O :=
  [⟨(some 2), none, .mov (.c (.slice none 0 0))⟩,
   ⟨(some 3), none, .mov (.c (.int .i64 0))⟩]
def r_word_List_1 : List O :=
  [⟨(some 4), none, .mov (.c (.slice none 0 0))⟩]
def r_word_List_2 : List O :=
  [⟨(some 5), none, .mov (.c (.int .i64 0))⟩]
def r_word_List_3 : List O :=
  [⟨(some 9), none, .mov (.t 5)⟩,
   ⟨(some 10), none, .mov (.t 0)⟩,
   ⟨(some 11), none, .lens (.t 10)⟩,
   ⟨(some 12), none, .bin .lss (.t 9) (.t 11)⟩]
def r_word_List_4 : List O :=
  [⟨(some 14), none, .mov (.t 0)⟩,
   ⟨(some 15), none, .mov (.t 5)⟩,
   ⟨(some 16), none, .call n_word_Get [(.t 14), (.t 15)]⟩,
   ⟨(some 13), none, .mov (.t 16)⟩,
   ⟨(some 17), none, .ext (.t 13) 0⟩,
   ⟨(some 18), none, .ext (.t 13) 1⟩,
   ⟨(some 19), none, .ext (.t 13) 2⟩,
   ⟨(some 6), none, .mov (.t 17)⟩,
   ⟨(some 7), none, .mov (.t 18)⟩,
   ⟨(some 8), none, .mov (.t 19)⟩]
def r_word_List_5 : List O :=
  [⟨(some 20), none, .mov (.t 8)⟩,
   ⟨(some 21), none, .bin .neq (.t 20) (.c (.int .i64 0))⟩]
def r_word_List_6 : List O :=
  [⟨(some 22), none, .mov (.t 8)⟩,
   ⟨(some 2), none, .mov (.c (.slice none 0 0))⟩,
   ⟨(some 3), none, .mov (.t 22)⟩]
def r_word_List_7 : List O :=
  [⟨(some 23), none, .mov (.t 4)⟩,
   ⟨(some 24), none, .mov (.t 6)⟩,
   ⟨(some 25), none, .bsl 1 [(.int .i64 0)] 1 [(0, (.t 24))]⟩,
   ⟨(some 26), none, .app 3 1 8 (.t 23) (.t 25)⟩,
   ⟨(some 4), none, .mov (.t 26)⟩]
def r_word_List_8 : List O :=
  [⟨(some 27), none, .mov (.t 7)⟩,
   ⟨(some 5), none, .mov (.t 27)⟩]
def l_word_List_0 : C := (.seq (.seq (.reg r_word_List_3 [0, 4, 5, 12]) (.cond (.t 12) .skip (.exit 0))) (.blk 1 (.seq (.reg r_word_List_4 [0, 4, 6, 7, 8]) (.seq (.seq (.reg r_word_List_5 [0, 4, 6, 7, 8, 21]) (.cond (.t 21) (.seq (.reg r_word_List_6 [2, 3]) .ret) .skip)) (.seq (.reg r_word_List_7 [0, 4, 7]) (.reg r_word_List_8 [0, 4, 5]))))))
def r_word_List_9 : List O :=
  [⟨(some 28), none, .mov (.t 4)⟩,
   ⟨(some 2), none, .mov (.t 28)⟩,
   ⟨(some 3), none, .mov (.c (.int .i64 0))⟩]
def c_word_List : MF := ⟨1, [.t 2, .t 3], (.seq (.reg r_word_List_0 [0]) (.seq (.reg r_word_List_1 [0, 4]) (.seq (.seq (.reg r_word_List_2 [0, 4, 5]) (.blk 0 (.loop l_word_List_0))) (.seq (.reg r_word_List_9 [2, 3]) .ret))))⟩
theorem ok_word_List : okFun Try.prog n_word_List c_word_List = true := by kernel_rfl

/- tell_numbers_next -/
def n_tell_numbers_next : Nat := 51
def r_tell_numbers_next_0 : List O :=
  [⟨(some 2), none, .mov (.c (.int .i64 0))⟩]
def r_tell_numbers_next_1 : List O :=
  [⟨(some 4), none, .mov (.t 0)⟩,
   ⟨(some 5), none, .nilck (.t 4)⟩,
   ⟨(some 6), none, .fa 0 (.t 5)⟩,
   ⟨(some 7), none, .load false 1 (.t 6)⟩,
   ⟨(some 8), none, .len (.t 7)⟩,
   ⟨(some 9), none, .bin .eql (.t 8) (.c (.int .i64 0))⟩]
def r_tell_numbers_next_2 : List O :=
  [⟨(some 10), none, .mov (.t 0)⟩,
   ⟨(some 11), none, .nilck (.t 10)⟩,
   ⟨(some 12), none, .fa 1 (.t 11)⟩,
   ⟨none, none, .store 1 (.t 12) (.c (.bool true))⟩]
def r_tell_numbers_next_3 : List O :=
  [⟨(some 2), none, .mov (.c (.int .i64 0))⟩]
def r_tell_numbers_next_4 : List O :=
  [⟨(some 13), none, .mov (.t 0)⟩,
   ⟨(some 14), none, .nilck (.t 13)⟩,
   ⟨(some 15), none, .fa 0 (.t 14)⟩,
   ⟨(some 16), none, .load false 1 (.t 15)⟩,
   ⟨(some 17), none, .ia 1 (.t 16) (.c (.int .i64 0))⟩,
   ⟨(some 18), none, .load false 1 (.t 17)⟩,
   ⟨(some 3), none, .mov (.t 18)⟩]
def r_tell_numbers_next_5 : List O :=
  [⟨(some 19), none, .mov (.t 0)⟩,
   ⟨(some 20), none, .mov (.t 0)⟩,
   ⟨(some 21), none, .nilck (.t 20)⟩,
   ⟨(some 22), none, .fa 0 (.t 21)⟩,
   ⟨(some 23), none, .load false 1 (.t 22)⟩,
   ⟨(some 24), none, .slc 1 (.t 23) (some (.c (.int .i64 1))) none none⟩,
   ⟨(some 25), none, .nilck (.t 19)⟩,
   ⟨(some 26), none, .fa 0 (.t 25)⟩,
   ⟨none, none, .store 1 (.t 26) (.t 24)⟩]
def r_tell_numbers_next_6 : List O :=
  [⟨(some 27), none, .mov (.t 3)⟩,
   ⟨(some 2), none, .mov (.t 27)⟩]
def c_tell_numbers_next : MF := ⟨1, [.t 2], (.seq (.reg r_tell_numbers_next_0 [0]) (.seq (.seq (.reg r_tell_numbers_next_1 [0, 9]) (.cond (.t 9) (.seq (.reg r_tell_numbers_next_2 []) (.seq (.reg r_tell_numbers_next_3 [2]) .ret)) .skip)) (.seq (.reg r_tell_numbers_next_4 [0, 3]) (.seq (.reg r_tell_numbers_next_5 [3]) (.seq (.reg r_tell_numbers_next_6 [2]) .ret)))))⟩
theorem ok_tell_numbers_next : okFun Try.prog n_tell_numbers_next c_tell_numbers_next = true := by kernel_rfl

/- tell_numbers_span -/
def n_tell_numbers_span : Nat := 52
def r_tell_numbers_span_0 : List O :=
  [⟨(some 2), none, .alloc 23 [(.int .i64 0), (.int .i64 0)]⟩]
def r_tell_numbers_span_1 : List O :=
  [⟨(some 4), none, .mov (.t 0)⟩,
   ⟨(some 5), none, .call n_tell_numbers_next [(.t 4)]⟩,
   ⟨(some 3), none, .mov (.t 5)⟩]
def r_tell_numbers_span_2 : List O :=
  [⟨(some 6), none, .mov (.t 3)⟩,
   ⟨(some 7), none, .mov (.t 0)⟩,
   ⟨(some 8), none, .call n_tell_numbers_next [(.t 7)]⟩,
   ⟨(some 9), none, .build [(.int .i64 0), (.int .i64 0)] [(0, 1, (.t 6)), (1, 1, (.t 8))]⟩,
   ⟨none, none, .store 2 (.t 2) (.t 9)⟩]
def c_tell_numbers_span : MF := ⟨1, [.c 2 true 2], (.seq (.reg r_tell_numbers_span_0 [0, 2]) (.seq (.reg r_tell_numbers_span_1 [0, 2, 3]) (.seq (.reg r_tell_numbers_span_2 [2]) .ret)))⟩
theorem ok_tell_numbers_span : okFun Try.prog n_tell_numbers_span c_tell_numbers_span = true := by kernel_rfl

/- tell_numbers_count -/
def n_tell_numbers_count : Nat := 53
def r_tell_numbers_count_0 : List O :=
  [⟨(some 2), none, .mov (.c (.int .i64 0))⟩]
def r_tell_numbers_count_1 : List O :=
  [⟨(some 4), none, .mov (.t 0)⟩,
   ⟨(some 5), none, .call n_tell_numbers_next [(.t 4)]⟩,
   ⟨(some 3), none, .mov (.t 5)⟩]
def r_tell_numbers_count_2 : List O :=
  [⟨(some 6), none, .mov (.t 3)⟩,
   ⟨(some 7), none, .mov (.t 0)⟩,
   ⟨(some 8), none, .nilck (.t 7)⟩,
   ⟨(some 9), none, .fa 0 (.t 8)⟩,
   ⟨(some 10), none, .load false 1 (.t 9)⟩,
   ⟨(some 11), none, .len (.t 10)⟩,
   ⟨(some 12), none, .bin .gtr (.t 6) (.t 11)⟩]
def r_tell_numbers_count_3 : List O :=
  [⟨(some 13), none, .mov (.t 0)⟩,
   ⟨(some 14), none, .nilck (.t 13)⟩,
   ⟨(some 15), none, .fa 1 (.t 14)⟩,
   ⟨none, none, .store 1 (.t 15) (.c (.bool true))⟩]
def r_tell_numbers_count_4 : List O :=
  [⟨(some 2), none, .mov (.c (.int .i64 0))⟩]
def r_tell_numbers_count_5 : List O :=
  [⟨(some 16), none, .mov (.t 3)⟩,
   ⟨(some 2), none, .mov (.t 16)⟩]
def c_tell_numbers_count : MF := ⟨1, [.t 2], (.seq (.reg r_tell_numbers_count_0 [0]) (.seq (.reg r_tell_numbers_count_1 [0, 3]) (.seq (.seq (.reg r_tell_numbers_count_2 [0, 3, 12]) (.cond (.t 12) (.seq (.reg r_tell_numbers_count_3 []) (.seq (.reg r_tell_numbers_count_4 [2]) .ret)) .skip)) (.seq (.reg r_tell_numbers_count_5 [2]) .ret))))⟩
theorem ok_tell_numbers_count : okFun Try.prog n_tell_numbers_count c_tell_numbers_count = true := by kernel_rfl

/- tell_numbers_list -/
def n_tell_numbers_list : Nat := 55
def r_tell_numbers_list_0 : List O :=
  [⟨(some 2), none, .mov (.c (.slice none 0 0))⟩]
def r_tell_numbers_list_1 : List O :=
  [⟨(some 3), none, .mov (.c (.slice none 0 0))⟩]
def r_tell_numbers_list_2 : List O :=
  [⟨(some 4), none, .mov (.t 0)⟩,
   ⟨(some 5), none, .call n_tell_numbers_count [(.t 4)]⟩,
   ⟨(some 6), none, .mov (.c (.int .i64 0))⟩]
def r_tell_numbers_list_3 : List O :=
  [⟨(some 7), none, .bin .lss (.t 6) (.t 5)⟩]
def r_tell_numbers_list_4 : List O :=
  [⟨(some 8), none, .mov (.t 3)⟩,
   ⟨(some 9), none, .mov (.t 0)⟩,
   ⟨(some 10), none, .call n_tell_numbers_next [(.t 9)]⟩,
   ⟨(some 11), none, .bsl 1 [(.int .i64 0)] 1 [(0, (.t 10))]⟩,
   ⟨(some 12), none, .app 3 1 8 (.t 8) (.t 11)⟩,
   ⟨(some 3), none, .mov (.t 12)⟩]
def r_tell_numbers_list_5 : List O :=
  [⟨(some 13), none, .bin .add (.t 6) (.c (.int .i64 1))⟩,
   ⟨(some 6), none, .mov (.t 13)⟩]
def l_tell_numbers_list_0 : C := (.seq (.reg r_tell_numbers_list_3 [0, 3, 5, 6, 7]) (.seq (.cond (.t 7) .skip (.exit 0)) (.seq (.blk 1 (.reg r_tell_numbers_list_4 [0, 3, 5, 6])) (.reg r_tell_numbers_list_5 [0, 3, 5, 6]))))
def r_tell_numbers_list_6 : List O :=
  [⟨(some 14), none, .mov (.t 3)⟩,
   ⟨(some 2), none, .mov (.t 14)⟩]
def c_tell_numbers_list : MF := ⟨1, [.t 2], (.seq (.reg r_tell_numbers_list_0 [0]) (.seq (.reg r_tell_numbers_list_1 [0, 3]) (.seq (.seq (.reg r_tell_numbers_list_2 [0, 3, 5, 6]) (.blk 0 (.loop l_tell_numbers_list_0))) (.seq (.reg r_tell_numbers_list_6 [2]) .ret))))⟩
theorem ok_tell_numbers_list : okFun Try.prog n_tell_numbers_list c_tell_numbers_list = true := by kernel_rfl

/- tell_numbers_piece -/
def n_tell_numbers_piece : Nat := 54
def r_tell_numbers_piece_0 : List O :=
  [⟨(some 2), none, .alloc 52 [(.int .i64 0), (.int .i64 0), (.slice none 0 0)]⟩]
def r_tell_numbers_piece_1 : List O :=
  [⟨(some 5), none, .mov (.t 0)⟩,
   ⟨(some 6), none, .call n_tell_numbers_span [(.t 5)]⟩,
   ⟨(some 7), none, .build [(.int .i64 0), (.int .i64 0), (.slice none 0 0)] [(0, 2, (.t 6))]⟩,
   ⟨(some 3), none, .alloc 52 [(.int .i64 0), (.int .i64 0), (.slice none 0 0)]⟩,
   ⟨none, none, .store 3 (.t 3) (.t 7)⟩]
def r_tell_numbers_piece_2 : List O :=
  [⟨(some 8), none, .mov (.t 0)⟩,
   ⟨(some 9), none, .call n_tell_numbers_count [(.t 8)]⟩,
   ⟨(some 10), none, .mov (.c (.int .i64 0))⟩]
def r_tell_numbers_piece_3 : List O :=
  [⟨(some 11), none, .bin .lss (.t 10) (.t 9)⟩]
def r_tell_numbers_piece_4 : List O :=
  [⟨(some 12), none, .mov (.t 0)⟩,
   ⟨(some 13), none, .call n_tell_numbers_next [(.t 12)]⟩,
   ⟨(some 14), none, .build [(.int .i64 0), (.slice none 0 0)] [(0, 1, (.t 13))]⟩,
   ⟨(some 4), none, .alloc 54 [(.int .i64 0), (.slice none 0 0)]⟩,
   ⟨none, none, .store 2 (.t 4) (.t 14)⟩]
def r_tell_numbers_piece_5 : List O :=
  [⟨(some 15), none, .mov (.t 0)⟩,
   ⟨(some 16), none, .call n_tell_numbers_list [(.t 15)]⟩,
   ⟨(some 17), none, .fa 1 (.t 4)⟩,
   ⟨none, none, .store 1 (.t 17) (.t 16)⟩]
def r_tell_numbers_piece_6 : List O :=
  [⟨(some 18), none, .fa 2 (.t 3)⟩,
   ⟨(some 19), none, .load false 1 (.t 18)⟩,
   ⟨(some 20), none, .load true 2 (.t 4)⟩,
   ⟨(some 21), none, .bsl 2 [(.int .i64 0), (.slice none 0 0)] 1 [(0, (.t 20))]⟩,
   ⟨(some 22), none, .app 54 2 32 (.t 19) (.t 21)⟩,
   ⟨(some 23), none, .fa 2 (.t 3)⟩,
   ⟨none, none, .store 1 (.t 23) (.t 22)⟩]
def r_tell_numbers_piece_7 : List O :=
  [⟨(some 24), none, .bin .add (.t 10) (.c (.int .i64 1))⟩,
   ⟨(some 10), none, .mov (.t 24)⟩]
def l_tell_numbers_piece_0 : C := (.seq (.reg r_tell_numbers_piece_3 [0, 2, 3, 9, 10, 11]) (.seq (.cond (.t 11) .skip (.exit 0)) (.seq (.blk 1 (.seq (.reg r_tell_numbers_piece_4 [0, 2, 3, 4, 9, 10]) (.seq (.reg r_tell_numbers_piece_5 [0, 2, 3, 4, 9, 10]) (.reg r_tell_numbers_piece_6 [0, 2, 3, 9, 10])))) (.reg r_tell_numbers_piece_7 [0, 2, 3, 9, 10]))))
def r_tell_numbers_piece_8 : List O :=
  [⟨(some 25), none, .load true 3 (.t 3)⟩,
   ⟨none, none, .store 3 (.t 2) (.t 25)⟩]
def c_tell_numbers_piece : MF := ⟨1, [.c 2 true 3], (.seq (.reg r_tell_numbers_piece_0 [0, 2]) (.seq (.reg r_tell_numbers_piece_1 [0, 2, 3]) (.seq (.seq (.reg r_tell_numbers_piece_2 [0, 2, 3, 9, 10]) (.blk 0 (.loop l_tell_numbers_piece_0))) (.seq (.reg r_tell_numbers_piece_8 [2]) .ret))))⟩
theorem ok_tell_numbers_piece : okFun Try.prog n_tell_numbers_piece c_tell_numbers_piece = true := by kernel_rfl

/- tell_numbers_reply -/
def n_tell_numbers_reply : Nat := 35
def r_tell_numbers_reply_0 : List O :=
  [⟨(some 2), none, .alloc 29 [(.int .i64 0), (.int .i64 0), (.int .i64 0), (.slice none 0 0), (.int .i64 0), (.int .i64 0), (.int .i64 0), (.int .i64 0), (.int .i64 0), (.slice none 0 0)]⟩]
def r_tell_numbers_reply_1 : List O :=
  [⟨(some 4), none, .mov (.t 0)⟩,
   ⟨(some 5), none, .call n_tell_numbers_next [(.t 4)]⟩,
   ⟨(some 6), none, .build [(.int .i64 0), (.int .i64 0), (.int .i64 0), (.slice none 0 0), (.int .i64 0), (.int .i64 0), (.int .i64 0), (.int .i64 0), (.int .i64 0), (.slice none 0 0)] [(4, 1, (.t 5))]⟩,
   ⟨(some 3), none, .alloc 29 [(.int .i64 0), (.int .i64 0), (.int .i64 0), (.slice none 0 0), (.int .i64 0), (.int .i64 0), (.int .i64 0), (.int .i64 0), (.int .i64 0), (.slice none 0 0)]⟩,
   ⟨none, none, .store 10 (.t 3) (.t 6)⟩]
def r_tell_numbers_reply_2 : List O :=
  [⟨(some 7), none, .fa 4 (.t 3)⟩,
   ⟨(some 8), none, .load false 1 (.t 7)⟩]
def r_tell_numbers_reply_3 : List O :=
  [⟨(some 10), none, .bin .eql (.t 8) (.c (.int .i64 1))⟩,
   ⟨(some 9), none, .mov (.t 10)⟩]
def r_tell_numbers_reply_4 : List O :=
  [⟨(some 11), none, .mov (.t 0)⟩,
   ⟨(some 12), none, .call n_tell_numbers_next [(.t 11)]⟩,
   ⟨(some 13), none, .fa 5 (.t 3)⟩,
   ⟨none, none, .store 1 (.t 13) (.t 12)⟩]
def r_tell_numbers_reply_5 : List O :=
  [⟨(some 15), none, .bin .eql (.t 8) (.c (.int .i64 2))⟩,
   ⟨(some 14), none, .mov (.t 15)⟩]
def r_tell_numbers_reply_6 : List O :=
  [⟨(some 16), none, .mov (.t 0)⟩,
   ⟨(some 17), none, .call n_tell_numbers_next [(.t 16)]⟩,
   ⟨(some 18), none, .fa 6 (.t 3)⟩,
   ⟨none, none, .store 1 (.t 18) (.t 17)⟩]
def r_tell_numbers_reply_7 : List O :=
  [⟨(some 19), none, .mov (.t 0)⟩,
   ⟨(some 20), none, .call n_tell_numbers_next [(.t 19)]⟩,
   ⟨(some 21), none, .fa 7 (.t 3)⟩,
   ⟨none, none, .store 1 (.t 21) (.t 20)⟩]
def r_tell_numbers_reply_8 : List O :=
  [⟨(some 22), none, .mov (.t 0)⟩,
   ⟨(some 23), none, .call n_tell_numbers_span [(.t 22)]⟩,
   ⟨(some 24), none, .fa 0 (.t 3)⟩,
   ⟨none, none, .store 2 (.t 24) (.t 23)⟩]
def r_tell_numbers_reply_9 : List O :=
  [⟨(some 25), none, .mov (.t 0)⟩,
   ⟨(some 26), none, .call n_tell_numbers_count [(.t 25)]⟩,
   ⟨(some 27), none, .mov (.c (.int .i64 0))⟩]
def r_tell_numbers_reply_10 : List O :=
  [⟨(some 28), none, .bin .lss (.t 27) (.t 26)⟩]
def r_tell_numbers_reply_11 : List D :=
  [⟨⟨(some 29), none, .fa 9 (.t 3)⟩, []⟩,
   ⟨⟨(some 30), none, .load false 1 (.t 29)⟩, []⟩,
   ⟨⟨(some 31), none, .mov (.t 0)⟩, []⟩,
   ⟨⟨(some 32), none, .call n_tell_numbers_piece [(.t 31)]⟩, [1]⟩,
   ⟨⟨(some 33), none, .bsl 3 [(.int .i64 0), (.int .i64 0), (.slice none 0 0)] 1 [(0, (.t 32))]⟩, [1]⟩,
   ⟨⟨(some 34), none, .app 52 3 40 (.t 30) (.t 33)⟩, []⟩,
   ⟨⟨(some 35), none, .fa 9 (.t 3)⟩, []⟩,
   ⟨⟨none, none, .store 1 (.t 35) (.t 34)⟩, []⟩]
def r_tell_numbers_reply_12 : List O :=
  [⟨(some 36), none, .bin .add (.t 27) (.c (.int .i64 1))⟩,
   ⟨(some 27), none, .mov (.t 36)⟩]
def l_tell_numbers_reply_0 : C := (.seq (.reg r_tell_numbers_reply_10 [0, 2, 3, 26, 27, 28]) (.seq (.cond (.t 28) .skip (.exit 1)) (.seq (.blk 2 (.dreg r_tell_numbers_reply_11 [0, 2, 3, 26, 27])) (.reg r_tell_numbers_reply_12 [0, 2, 3, 26, 27]))))
def r_tell_numbers_reply_13 : List O :=
  [⟨(some 38), none, .bin .eql (.t 8) (.c (.int .i64 3))⟩,
   ⟨(some 37), none, .mov (.t 38)⟩]
def r_tell_numbers_reply_14 : List O :=
  [⟨(some 39), none, .mov (.t 0)⟩,
   ⟨(some 40), none, .call n_tell_numbers_next [(.t 39)]⟩,
   ⟨(some 41), none, .fa 2 (.t 3)⟩,
   ⟨(some 42), none, .fa 0 (.t 41)⟩,
   ⟨none, none, .store 1 (.t 42) (.t 40)⟩]
def r_tell_numbers_reply_15 : List O :=
  [⟨(some 43), none, .mov (.t 0)⟩,
   ⟨(some 44), none, .call n_tell_numbers_list [(.t 43)]⟩,
   ⟨(some 45), none, .fa 2 (.t 3)⟩,
   ⟨(some 46), none, .fa 1 (.t 45)⟩,
   ⟨none, none, .store 1 (.t 46) (.t 44)⟩]
def r_tell_numbers_reply_16 : List O :=
  [⟨(some 48), none, .bin .eql (.t 8) (.c (.int .i64 5))⟩,
   ⟨(some 47), none, .mov (.t 48)⟩]
def r_tell_numbers_reply_17 : List O :=
  [⟨(some 49), none, .mov (.t 0)⟩,
   ⟨(some 50), none, .call n_tell_numbers_next [(.t 49)]⟩,
   ⟨(some 51), none, .fa 8 (.t 3)⟩,
   ⟨none, none, .store 1 (.t 51) (.t 50)⟩]
def r_tell_numbers_reply_18 : List O :=
  [⟨(some 52), none, .load true 10 (.t 3)⟩,
   ⟨none, none, .store 10 (.t 2) (.t 52)⟩]
def c_tell_numbers_reply : MF := ⟨1, [.c 2 true 10], (.seq (.reg r_tell_numbers_reply_0 [0, 2]) (.seq (.reg r_tell_numbers_reply_1 [0, 2, 3]) (.seq (.seq (.reg r_tell_numbers_reply_2 [0, 2, 3, 8]) (.blk 0 (.seq (.reg r_tell_numbers_reply_3 [0, 2, 3, 8, 9]) (.cond (.t 9) (.reg r_tell_numbers_reply_4 [2, 3]) (.seq (.reg r_tell_numbers_reply_5 [0, 2, 3, 8, 14]) (.cond (.t 14) (.seq (.reg r_tell_numbers_reply_6 [0, 2, 3]) (.seq (.reg r_tell_numbers_reply_7 [0, 2, 3]) (.seq (.reg r_tell_numbers_reply_8 [0, 2, 3]) (.seq (.reg r_tell_numbers_reply_9 [0, 2, 3, 26, 27]) (.blk 1 (.loop l_tell_numbers_reply_0)))))) (.seq (.reg r_tell_numbers_reply_13 [0, 2, 3, 8, 37]) (.cond (.t 37) (.seq (.reg r_tell_numbers_reply_14 [0, 2, 3]) (.reg r_tell_numbers_reply_15 [2, 3])) (.seq (.reg r_tell_numbers_reply_16 [0, 2, 3, 47]) (.cond (.t 47) (.reg r_tell_numbers_reply_17 [2, 3]) .skip)))))))))) (.seq (.reg r_tell_numbers_reply_18 [2]) .ret))))⟩
theorem ok_tell_numbers_reply : okFun Try.prog n_tell_numbers_reply c_tell_numbers_reply = true := by kernel_rfl

/- tell_Read -/
def n_tell_Read : Nat := 16
def r_tell_Read_0 : List O :=
  [⟨(some 2), none, .alloc 29 [(.int .i64 0), (.int .i64 0), (.int .i64 0), (.slice none 0 0), (.int .i64 0), (.int .i64 0), (.int .i64 0), (.int .i64 0), (.int .i64 0), (.slice none 0 0)]⟩,
   ⟨(some 3), none, .mov (.c (.int .i64 0))⟩]
def r_tell_Read_1 : List O :=
  [⟨(some 9), none, .mov (.t 0)⟩,
   ⟨(some 10), none, .call n_word_List [(.t 9)]⟩,
   ⟨(some 8), none, .mov (.t 10)⟩,
   ⟨(some 11), none, .ext (.t 8) 0⟩,
   ⟨(some 12), none, .ext (.t 8) 1⟩,
   ⟨(some 4), none, .mov (.t 11)⟩,
   ⟨(some 5), none, .mov (.t 12)⟩]
def r_tell_Read_2 : List O :=
  [⟨(some 13), none, .mov (.t 5)⟩,
   ⟨(some 14), none, .bin .neq (.t 13) (.c (.int .i64 0))⟩]
def r_tell_Read_3 : List O :=
  [⟨(some 15), none, .build [(.int .i64 0), (.int .i64 0), (.int .i64 0), (.slice none 0 0), (.int .i64 0), (.int .i64 0), (.int .i64 0), (.int .i64 0), (.int .i64 0), (.slice none 0 0)] []⟩,
   ⟨none, none, .store 10 (.t 2) (.t 15)⟩,
   ⟨(some 3), none, .mov (.c (.int .i64 2300))⟩]
def r_tell_Read_4 : List O :=
  [⟨(some 16), none, .mov (.t 4)⟩,
   ⟨(some 17), none, .build [(.slice none 0 0), (.bool false)] [(0, 1, (.t 16))]⟩,
   ⟨(some 18), none, .box 2 (.t 17)⟩,
   ⟨(some 6), none, .mov (.t 18)⟩]
def r_tell_Read_5 : List O :=
  [⟨(some 19), none, .mov (.t 6)⟩,
   ⟨(some 20), none, .call n_tell_numbers_reply [(.t 19)]⟩,
   ⟨(some 7), none, .alloc 29 [(.int .i64 0), (.int .i64 0), (.int .i64 0), (.slice none 0 0), (.int .i64 0), (.int .i64 0), (.int .i64 0), (.int .i64 0), (.int .i64 0), (.slice none 0 0)]⟩,
   ⟨none, none, .store 10 (.t 7) (.t 20)⟩]
def r_tell_Read_6 : List O :=
  [⟨(some 21), none, .mov (.t 6)⟩,
   ⟨(some 22), none, .nilck (.t 21)⟩,
   ⟨(some 23), none, .fa 1 (.t 22)⟩,
   ⟨(some 24), none, .load false 1 (.t 23)⟩,
   ⟨(some 25), none, .mov (.t 24)⟩,
   ⟨(some 26), (some (25, false)), .mov (.t 6)⟩,
   ⟨(some 27), (some (25, false)), .nilck (.t 26)⟩,
   ⟨(some 28), (some (25, false)), .fa 0 (.t 27)⟩,
   ⟨(some 29), (some (25, false)), .load false 1 (.t 28)⟩,
   ⟨(some 30), (some (25, false)), .len (.t 29)⟩,
   ⟨(some 31), (some (25, false)), .bin .gtr (.t 30) (.c (.int .i64 0))⟩,
   ⟨(some 32), none, .pick (.t 25) (.c (.bool true)) (.t 31)⟩,
   ⟨(some 33), none, .mov (.t 32)⟩,
   ⟨(some 34), (some (33, false)), .load true 10 (.t 7)⟩,
   ⟨(some 35), (some (33, false)), .call n_tell_May [(.t 34)]⟩,
   ⟨(some 36), (some (33, false)), .un .not (.t 35)⟩,
   ⟨(some 37), none, .pick (.t 33) (.c (.bool true)) (.t 36)⟩]
def r_tell_Read_7 : List O :=
  [⟨(some 38), none, .build [(.int .i64 0), (.int .i64 0), (.int .i64 0), (.slice none 0 0), (.int .i64 0), (.int .i64 0), (.int .i64 0), (.int .i64 0), (.int .i64 0), (.slice none 0 0)] []⟩,
   ⟨none, none, .store 10 (.t 2) (.t 38)⟩,
   ⟨(some 3), none, .mov (.c (.int .i64 2300))⟩]
def r_tell_Read_8 : List O :=
  [⟨(some 39), none, .load true 10 (.t 7)⟩,
   ⟨none, none, .store 10 (.t 2) (.t 39)⟩,
   ⟨(some 3), none, .mov (.c (.int .i64 0))⟩]
def c_tell_Read : MF := ⟨1, [.c 2 true 10, .t 3], (.seq (.reg r_tell_Read_0 [0, 2]) (.seq (.reg r_tell_Read_1 [2, 4, 5]) (.seq (.seq (.reg r_tell_Read_2 [2, 4, 14]) (.cond (.t 14) (.seq (.reg r_tell_Read_3 [2, 3]) .ret) .skip)) (.seq (.reg r_tell_Read_4 [2, 6]) (.seq (.reg r_tell_Read_5 [2, 6, 7]) (.seq (.seq (.reg r_tell_Read_6 [2, 7, 37]) (.cond (.t 37) (.seq (.reg r_tell_Read_7 [2, 3]) .ret) .skip)) (.seq (.reg r_tell_Read_8 [2, 3]) .ret)))))))⟩
theorem ok_tell_Read : okFun Try.prog n_tell_Read c_tell_Read = true := by kernel_rfl

/- tollbarlaw0_Num -/
def n_tollbarlaw0_Num : Nat := 14
def r_tollbarlaw0_Num_0 : List O :=
  [⟨(some 2), none, .mov (.c (.int .i64 0))⟩]
def r_tollbarlaw0_Num_1 : List O :=
  [⟨(some 3), none, .mov (.t 0)⟩,
   ⟨(some 2), none, .mov (.t 3)⟩]
def c_tollbarlaw0_Num : MF := ⟨1, [.t 2], (.seq (.reg r_tollbarlaw0_Num_0 [0]) (.seq (.reg r_tollbarlaw0_Num_1 [2]) .ret))⟩
theorem ok_tollbarlaw0_Num : okFun Try.prog n_tollbarlaw0_Num c_tollbarlaw0_Num = true := by kernel_rfl

/- tollbarlaw0_SameReply -/
def n_tollbarlaw0_SameReply : Nat := 15
def r_tollbarlaw0_SameReply_0 : List O :=
  [⟨(some 2), none, .box 10 (.t 0)⟩,
   ⟨(some 3), none, .box 10 (.t 1)⟩,
   ⟨(some 4), none, .mov (.c (.bool false))⟩]
def r_tollbarlaw0_SameReply_1 : List O :=
  [⟨(some 5), none, .load true 10 (.t 2)⟩,
   ⟨(some 6), none, .load true 10 (.t 3)⟩,
   ⟨(some 7), none, .call n_tollbarref19_SameReply [(.t 5), (.t 6)]⟩,
   ⟨(some 4), none, .mov (.t 7)⟩]
def c_tollbarlaw0_SameReply : MF := ⟨2, [.t 4], (.seq (.reg r_tollbarlaw0_SameReply_0 [2, 3]) (.seq (.reg r_tollbarlaw0_SameReply_1 [4]) .ret))⟩
theorem ok_tollbarlaw0_SameReply : okFun Try.prog n_tollbarlaw0_SameReply c_tollbarlaw0_SameReply = true := by kernel_rfl

/- tollbarlaw23_awake -/
def n_tollbarlaw23_awake : Nat := 11
def r_tollbarlaw23_awake_0 : List O :=
  [⟨(some 0), none, .mov (.c (.bool false))⟩]
def r_tollbarlaw23_awake_1 : List O :=
  [⟨(some 8), none, .bsl 1 [(.int .i64 0)] 2 [(0, (.c (.int .i64 0))), (1, (.c (.int .i64 2)))]⟩,
   ⟨(some 9), none, .build [(.int .i64 0), (.slice none 0 0)] [(0, 1, (.c (.int .i64 7))), (1, 1, (.t 8))]⟩,
   ⟨(some 10), none, .build [(.int .i64 0), (.int .i64 0), (.int .i64 0), (.slice none 0 0), (.int .i64 0), (.int .i64 0), (.int .i64 0), (.int .i64 0), (.int .i64 0), (.slice none 0 0)] [(4, 1, (.c (.int .i64 3))), (2, 2, (.t 9))]⟩,
   ⟨(some 1), none, .alloc 29 [(.int .i64 0), (.int .i64 0), (.int .i64 0), (.slice none 0 0), (.int .i64 0), (.int .i64 0), (.int .i64 0), (.int .i64 0), (.int .i64 0), (.slice none 0 0)]⟩,
   ⟨none, none, .store 10 (.t 1) (.t 10)⟩]
def r_tollbarlaw23_awake_2 : List O :=
  [⟨(some 12), none, .load true 10 (.t 1)⟩,
   ⟨(some 13), none, .call n_tell_Write [(.t 12)]⟩,
   ⟨(some 11), none, .mov (.t 13)⟩,
   ⟨(some 14), none, .ext (.t 11) 0⟩,
   ⟨(some 15), none, .ext (.t 11) 1⟩,
   ⟨(some 2), none, .mov (.t 14)⟩,
   ⟨(some 3), none, .mov (.t 15)⟩]
def r_tollbarlaw23_awake_3 : List O :=
  [⟨(some 17), none, .mov (.t 2)⟩,
   ⟨(some 18), none, .call n_tell_Read [(.t 17)]⟩,
   ⟨(some 16), none, .mov (.t 18)⟩,
   ⟨(some 19), none, .ext (.t 16) 0⟩,
   ⟨(some 20), none, .ext (.t 16) 1⟩,
   ⟨(some 4), none, .alloc 29 [(.int .i64 0), (.int .i64 0), (.int .i64 0), (.slice none 0 0), (.int .i64 0), (.int .i64 0), (.int .i64 0), (.int .i64 0), (.int .i64 0), (.slice none 0 0)]⟩,
   ⟨none, none, .store 10 (.t 4) (.t 19)⟩,
   ⟨(some 5), none, .mov (.t 20)⟩]
def r_tollbarlaw23_awake_4 : List O :=
  [⟨(some 22), none, .call n_tell_Read [(.c (.string ⟨#[1, 4, 0]⟩))]⟩,
   ⟨(some 21), none, .mov (.t 22)⟩,
   ⟨(some 23), none, .ext (.t 21) 0⟩,
   ⟨(some 24), none, .ext (.t 21) 1⟩,
   ⟨(some 6), none, .alloc 29 [(.int .i64 0), (.int .i64 0), (.int .i64 0), (.slice none 0 0), (.int .i64 0), (.int .i64 0), (.int .i64 0), (.int .i64 0), (.int .i64 0), (.slice none 0 0)]⟩,
   ⟨none, none, .store 10 (.t 6) (.t 23)⟩,
   ⟨(some 7), none, .mov (.t 24)⟩]
def r_tollbarlaw23_awake_5 : List O :=
  [⟨(some 25), none, .mov (.t 2)⟩,
   ⟨(some 26), none, .bin .eql (.t 25) (.c (.string ⟨#[1, 3, 1, 7, 1, 2, 0, 1, 2]⟩))⟩,
   ⟨(some 27), none, .mov (.t 26)⟩,
   ⟨(some 28), (some (27, true)), .mov (.t 3)⟩,
   ⟨(some 29), (some (27, true)), .call n_tollbarlaw0_Num [(.t 28)]⟩,
   ⟨(some 30), (some (27, true)), .bin .eql (.t 29) (.c (.int .i64 0))⟩,
   ⟨(some 31), none, .pick (.t 27) (.t 30) (.c (.bool false))⟩,
   ⟨(some 32), none, .mov (.t 31)⟩,
   ⟨(some 33), (some (32, true)), .load true 10 (.t 4)⟩,
   ⟨(some 34), (some (32, true)), .load true 10 (.t 1)⟩,
   ⟨(some 35), (some (32, true)), .call n_tollbarlaw0_SameReply [(.t 33), (.t 34)]⟩,
   ⟨(some 36), none, .pick (.t 32) (.t 35) (.c (.bool false))⟩,
   ⟨(some 37), none, .mov (.t 36)⟩,
   ⟨(some 38), (some (37, true)), .mov (.t 5)⟩,
   ⟨(some 39), (some (37, true)), .call n_tollbarlaw0_Num [(.t 38)]⟩,
   ⟨(some 40), (some (37, true)), .bin .eql (.t 39) (.c (.int .i64 0))⟩,
   ⟨(some 41), none, .pick (.t 37) (.t 40) (.c (.bool false))⟩,
   ⟨(some 42), none, .mov (.t 41)⟩,
   ⟨(some 43), (some (42, true)), .mov (.t 7)⟩,
   ⟨(some 44), (some (42, true)), .call n_tollbarlaw0_Num [(.t 43)]⟩,
   ⟨(some 45), (some (42, true)), .bin .eql (.t 44) (.c (.int .i64 2300))⟩,
   ⟨(some 46), none, .pick (.t 42) (.t 45) (.c (.bool false))⟩,
   ⟨(some 47), none, .mov (.t 46)⟩,
   ⟨(some 48), (some (47, true)), .load true 10 (.t 1)⟩,
   ⟨(some 49), (some (47, true)), .call n_tell_May [(.t 48)]⟩,
   ⟨(some 50), none, .pick (.t 47) (.t 49) (.c (.bool false))⟩,
   ⟨(some 51), none, .mov (.t 50)⟩,
   ⟨(some 52), (some (51, true)), .build [(.int .i64 0), (.int .i64 0), (.int .i64 0), (.slice none 0 0), (.int .i64 0), (.int .i64 0), (.int .i64 0), (.int .i64 0), (.int .i64 0), (.slice none 0 0)] []⟩,
   ⟨(some 53), (some (51, true)), .call n_tell_May [(.t 52)]⟩,
   ⟨(some 54), (some (51, true)), .un .not (.t 53)⟩,
   ⟨(some 55), none, .pick (.t 51) (.t 54) (.c (.bool false))⟩,
   ⟨(some 0), none, .mov (.t 55)⟩]
def c_tollbarlaw23_awake : MF := ⟨0, [.t 0], (.seq (.reg r_tollbarlaw23_awake_0 []) (.seq (.reg r_tollbarlaw23_awake_1 [1]) (.seq (.reg r_tollbarlaw23_awake_2 [1, 2, 3]) (.seq (.reg r_tollbarlaw23_awake_3 [1, 2, 3, 4, 5]) (.seq (.reg r_tollbarlaw23_awake_4 [1, 2, 3, 4, 5, 7]) (.seq (.reg r_tollbarlaw23_awake_5 [0]) .ret))))))⟩
theorem ok_tollbarlaw23_awake : okFun Try.prog n_tollbarlaw23_awake c_tollbarlaw23_awake = true := by kernel_rfl

/- tollbarlaw23_Tells -/
def n_tollbarlaw23_Tells : Nat := 3
def r_tollbarlaw23_Tells_0 : List O :=
  [⟨(some 1), none, .box 10 (.t 0)⟩,
   ⟨(some 2), none, .mov (.c (.bool false))⟩]
def r_tollbarlaw23_Tells_1 : List O :=
  [⟨(some 8), none, .load true 10 (.t 1)⟩,
   ⟨(some 9), none, .call n_tollbarlaw0_CopyReply [(.t 8)]⟩,
   ⟨(some 3), none, .alloc 29 [(.int .i64 0), (.int .i64 0), (.int .i64 0), (.slice none 0 0), (.int .i64 0), (.int .i64 0), (.int .i64 0), (.int .i64 0), (.int .i64 0), (.slice none 0 0)]⟩,
   ⟨none, none, .store 10 (.t 3) (.t 9)⟩]
def r_tollbarlaw23_Tells_2 : List O :=
  [⟨(some 11), none, .load true 10 (.t 3)⟩,
   ⟨(some 12), none, .call n_tell_Write [(.t 11)]⟩,
   ⟨(some 10), none, .mov (.t 12)⟩,
   ⟨(some 13), none, .ext (.t 10) 0⟩,
   ⟨(some 14), none, .ext (.t 10) 1⟩,
   ⟨(some 4), none, .mov (.t 13)⟩,
   ⟨(some 5), none, .mov (.t 14)⟩]
def r_tollbarlaw23_Tells_3 : List O :=
  [⟨(some 16), none, .load true 10 (.t 1)⟩,
   ⟨(some 17), none, .call n_tollbarref22_WriteTell [(.t 16)]⟩,
   ⟨(some 15), none, .mov (.t 17)⟩,
   ⟨(some 18), none, .ext (.t 15) 0⟩,
   ⟨(some 19), none, .ext (.t 15) 1⟩,
   ⟨(some 6), none, .mov (.t 18)⟩,
   ⟨(some 7), none, .mov (.t 19)⟩]
def r_tollbarlaw23_Tells_4 : List D :=
  [⟨⟨(some 20), none, .call n_tollbarlaw23_awake []⟩, []⟩,
   ⟨⟨(some 21), none, .mov (.t 20)⟩, []⟩,
   ⟨⟨(some 22), (some (21, true)), .load true 10 (.t 3)⟩, []⟩,
   ⟨⟨(some 23), (some (21, true)), .call n_tell_May [(.t 22)]⟩, []⟩,
   ⟨⟨(some 24), (some (21, true)), .load true 10 (.t 1)⟩, [3]⟩,
   ⟨⟨(some 25), (some (21, true)), .call n_tollbarref22_ReplyMay [(.t 24)]⟩, []⟩,
   ⟨⟨(some 26), (some (21, true)), .eqb false (.t 23) (.t 25)⟩, []⟩,
   ⟨⟨(some 27), none, .pick (.t 21) (.t 26) (.c (.bool false))⟩, []⟩,
   ⟨⟨(some 28), none, .mov (.t 27)⟩, []⟩,
   ⟨⟨(some 29), (some (28, true)), .mov (.t 4)⟩, []⟩,
   ⟨⟨(some 30), (some (28, true)), .mov (.t 6)⟩, []⟩,
   ⟨⟨(some 31), (some (28, true)), .bin .eql (.t 29) (.t 30)⟩, []⟩,
   ⟨⟨(some 32), none, .pick (.t 28) (.t 31) (.c (.bool false))⟩, []⟩,
   ⟨⟨(some 33), none, .mov (.t 32)⟩, []⟩,
   ⟨⟨(some 34), (some (33, true)), .mov (.t 5)⟩, []⟩,
   ⟨⟨(some 35), (some (33, true)), .call n_tollbarlaw0_Num [(.t 34)]⟩, []⟩,
   ⟨⟨(some 36), (some (33, true)), .mov (.t 7)⟩, []⟩,
   ⟨⟨(some 37), (some (33, true)), .bin .eql (.t 35) (.t 36)⟩, []⟩,
   ⟨⟨(some 38), none, .pick (.t 33) (.t 37) (.c (.bool false))⟩, []⟩,
   ⟨⟨(some 39), none, .mov (.t 38)⟩, []⟩,
   ⟨⟨(some 40), (some (39, true)), .load true 10 (.t 3)⟩, []⟩,
   ⟨⟨(some 41), (some (39, true)), .load true 10 (.t 1)⟩, []⟩,
   ⟨⟨(some 42), (some (39, true)), .call n_tollbarlaw0_SameReply [(.t 40), (.t 41)]⟩, []⟩,
   ⟨⟨(some 43), none, .pick (.t 39) (.t 42) (.c (.bool false))⟩, []⟩,
   ⟨⟨(some 2), none, .mov (.t 43)⟩, []⟩]
def c_tollbarlaw23_Tells : MF := ⟨1, [.t 2], (.seq (.reg r_tollbarlaw23_Tells_0 [1]) (.seq (.reg r_tollbarlaw23_Tells_1 [1, 3]) (.seq (.reg r_tollbarlaw23_Tells_2 [1, 3, 4, 5]) (.seq (.reg r_tollbarlaw23_Tells_3 [1, 3, 4, 5, 6, 7]) (.seq (.dreg r_tollbarlaw23_Tells_4 [2]) .ret)))))⟩
theorem ok_tollbarlaw23_Tells : okFun Try.prog n_tollbarlaw23_Tells c_tollbarlaw23_Tells = true := by kernel_rfl

/- tollbarref1_Get -/
def n_tollbarref1_Get : Nat := 56
def r_tollbarref1_Get_0 : List O :=
  [⟨(some 4), none, .mov (.c (.int .i64 0))⟩,
   ⟨(some 5), none, .mov (.c (.int .i64 0))⟩,
   ⟨(some 6), none, .mov (.c (.int .i64 0))⟩]
def r_tollbarref1_Get_1 : List O :=
  [⟨(some 10), none, .mov (.t 1)⟩,
   ⟨(some 11), none, .bin .lss (.t 10) (.c (.int .i64 0))⟩,
   ⟨(some 12), none, .mov (.t 11)⟩,
   ⟨(some 13), (some (12, false)), .mov (.t 1)⟩,
   ⟨(some 14), (some (12, false)), .mov (.t 0)⟩,
   ⟨(some 15), (some (12, false)), .lens (.t 14)⟩,
   ⟨(some 16), (some (12, false)), .bin .gtr (.t 13) (.t 15)⟩,
   ⟨(some 17), none, .pick (.t 12) (.c (.bool true)) (.t 16)⟩]
def r_tollbarref1_Get_2 : List O :=
  [⟨(some 4), none, .mov (.c (.int .i64 0))⟩,
   ⟨(some 5), none, .mov (.c (.int .i64 0))⟩,
   ⟨(some 6), none, .mov (.c (.int .i64 300))⟩]
def r_tollbarref1_Get_3 : List O :=
  [⟨(some 18), none, .mov (.t 1)⟩,
   ⟨(some 19), none, .mov (.t 0)⟩,
   ⟨(some 20), none, .lens (.t 19)⟩,
   ⟨(some 21), none, .bin .eql (.t 18) (.t 20)⟩]
def r_tollbarref1_Get_4 : List O :=
  [⟨(some 4), none, .mov (.c (.int .i64 0))⟩,
   ⟨(some 5), none, .mov (.c (.int .i64 0))⟩,
   ⟨(some 6), none, .mov (.c (.int .i64 301))⟩]
def r_tollbarref1_Get_5 : List O :=
  [⟨(some 22), none, .mov (.t 0)⟩,
   ⟨(some 23), none, .mov (.t 1)⟩,
   ⟨(some 24), none, .idx (.t 22) (.t 23)⟩,
   ⟨(some 25), none, .conv .i64 (.t 24)⟩,
   ⟨(some 7), none, .mov (.t 25)⟩]
def r_tollbarref1_Get_6 : List O :=
  [⟨(some 26), none, .mov (.t 7)⟩,
   ⟨(some 27), none, .bin .gtr (.t 26) (.c (.int .i64 8))⟩]
def r_tollbarref1_Get_7 : List O :=
  [⟨(some 4), none, .mov (.c (.int .i64 0))⟩,
   ⟨(some 5), none, .mov (.c (.int .i64 0))⟩,
   ⟨(some 6), none, .mov (.c (.int .i64 300))⟩]
def r_tollbarref1_Get_8 : List O :=
  [⟨(some 28), none, .mov (.t 7)⟩,
   ⟨(some 29), none, .mov (.t 0)⟩,
   ⟨(some 30), none, .lens (.t 29)⟩,
   ⟨(some 31), none, .mov (.t 1)⟩,
   ⟨(some 32), none, .bin .sub (.t 30) (.t 31)⟩,
   ⟨(some 33), none, .bin .sub (.t 32) (.c (.int .i64 1))⟩,
   ⟨(some 34), none, .bin .gtr (.t 28) (.t 33)⟩]
def r_tollbarref1_Get_9 : List O :=
  [⟨(some 4), none, .mov (.c (.int .i64 0))⟩,
   ⟨(some 5), none, .mov (.c (.int .i64 0))⟩,
   ⟨(some 6), none, .mov (.c (.int .i64 301))⟩]
def r_tollbarref1_Get_10 : List O :=
  [⟨(some 35), none, .mov (.t 7)⟩,
   ⟨(some 36), none, .bin .gtr (.t 35) (.c (.int .i64 0))⟩,
   ⟨(some 37), none, .mov (.t 36)⟩,
   ⟨(some 38), (some (37, true)), .mov (.t 0)⟩,
   ⟨(some 39), (some (37, true)), .mov (.t 1)⟩,
   ⟨(some 40), (some (37, true)), .bin .add (.t 39) (.c (.int .i64 1))⟩,
   ⟨(some 41), (some (37, true)), .idx (.t 38) (.t 40)⟩,
   ⟨(some 42), (some (37, true)), .bin .eql (.t 41) (.c (.int .u8 0))⟩,
   ⟨(some 43), none, .pick (.t 37) (.t 42) (.c (.bool false))⟩]
def r_tollbarref1_Get_11 : List O :=
  [⟨(some 4), none, .mov (.c (.int .i64 0))⟩,
   ⟨(some 5), none, .mov (.c (.int .i64 0))⟩,
   ⟨(some 6), none, .mov (.c (.int .i64 300))⟩]
def r_tollbarref1_Get_12 : List O :=
  [⟨(some 8), none, .mov (.c (.int .i64 0))⟩]
def r_tollbarref1_Get_13 : List O :=
  [⟨(some 9), none, .mov (.c (.int .i64 0))⟩]
def r_tollbarref1_Get_14 : List O :=
  [⟨(some 44), none, .mov (.t 9)⟩,
   ⟨(some 45), none, .mov (.t 7)⟩,
   ⟨(some 46), none, .bin .lss (.t 44) (.t 45)⟩]
def r_tollbarref1_Get_15 : List O :=
  [⟨(some 49), none, .mov (.t 8)⟩,
   ⟨(some 50), none, .mov (.t 0)⟩,
   ⟨(some 51), none, .mov (.t 1)⟩,
   ⟨(some 52), none, .bin .add (.t 51) (.c (.int .i64 1))⟩,
   ⟨(some 53), none, .mov (.t 9)⟩,
   ⟨(some 54), none, .bin .add (.t 52) (.t 53)⟩,
   ⟨(some 55), none, .idx (.t 50) (.t 54)⟩,
   ⟨(some 56), none, .conv .i64 (.t 55)⟩,
   ⟨(some 57), none, .bin .sub (.c (.int .i64 4611686018427387904)) (.t 56)⟩,
   ⟨(some 58), none, .bin .quo (.t 57) (.c (.int .i64 256))⟩,
   ⟨(some 59), none, .bin .gtr (.t 49) (.t 58)⟩]
def r_tollbarref1_Get_16 : List O :=
  [⟨(some 4), none, .mov (.c (.int .i64 0))⟩,
   ⟨(some 5), none, .mov (.c (.int .i64 0))⟩,
   ⟨(some 6), none, .mov (.c (.int .i64 300))⟩]
def r_tollbarref1_Get_17 : List O :=
  [⟨(some 60), none, .mov (.t 8)⟩,
   ⟨(some 61), none, .bin .mul (.c (.int .i64 256)) (.t 60)⟩,
   ⟨(some 62), none, .mov (.t 0)⟩,
   ⟨(some 63), none, .mov (.t 1)⟩,
   ⟨(some 64), none, .bin .add (.t 63) (.c (.int .i64 1))⟩,
   ⟨(some 65), none, .mov (.t 9)⟩,
   ⟨(some 66), none, .bin .add (.t 64) (.t 65)⟩,
   ⟨(some 67), none, .idx (.t 62) (.t 66)⟩,
   ⟨(some 68), none, .conv .i64 (.t 67)⟩,
   ⟨(some 69), none, .bin .add (.t 61) (.t 68)⟩,
   ⟨(some 8), none, .mov (.t 69)⟩]
def r_tollbarref1_Get_18 : List O :=
  [⟨(some 47), none, .mov (.t 9)⟩,
   ⟨(some 48), none, .bin .add (.t 47) (.c (.int .i64 1))⟩,
   ⟨(some 9), none, .mov (.t 48)⟩]
def l_tollbarref1_Get_0 : C := (.seq (.seq (.reg r_tollbarref1_Get_14 [0, 1, 7, 8, 9, 46]) (.cond (.t 46) .skip (.exit 0))) (.seq (.blk 1 (.seq (.seq (.reg r_tollbarref1_Get_15 [0, 1, 7, 8, 9, 59]) (.cond (.t 59) (.seq (.reg r_tollbarref1_Get_16 [4, 5, 6]) .ret) .skip)) (.reg r_tollbarref1_Get_17 [0, 1, 7, 8, 9]))) (.reg r_tollbarref1_Get_18 [0, 1, 7, 8, 9])))
def r_tollbarref1_Get_19 : List O :=
  [⟨(some 70), none, .mov (.t 8)⟩,
   ⟨(some 71), none, .mov (.t 1)⟩,
   ⟨(some 72), none, .bin .add (.t 71) (.c (.int .i64 1))⟩,
   ⟨(some 73), none, .mov (.t 7)⟩,
   ⟨(some 74), none, .bin .add (.t 72) (.t 73)⟩,
   ⟨(some 4), none, .mov (.t 70)⟩,
   ⟨(some 5), none, .mov (.t 74)⟩,
   ⟨(some 6), none, .mov (.c (.int .i64 0))⟩]
def c_tollbarref1_Get : MF := ⟨2, [.t 4, .t 5, .t 6], (.seq (.reg r_tollbarref1_Get_0 [0, 1]) (.seq (.seq (.reg r_tollbarref1_Get_1 [0, 1, 17]) (.cond (.t 17) (.seq (.reg r_tollbarref1_Get_2 [4, 5, 6]) .ret) .skip)) (.seq (.seq (.reg r_tollbarref1_Get_3 [0, 1, 21]) (.cond (.t 21) (.seq (.reg r_tollbarref1_Get_4 [4, 5, 6]) .ret) .skip)) (.seq (.reg r_tollbarref1_Get_5 [0, 1, 7]) (.seq (.seq (.reg r_tollbarref1_Get_6 [0, 1, 7, 27]) (.cond (.t 27) (.seq (.reg r_tollbarref1_Get_7 [4, 5, 6]) .ret) .skip)) (.seq (.seq (.reg r_tollbarref1_Get_8 [0, 1, 7, 34]) (.cond (.t 34) (.seq (.reg r_tollbarref1_Get_9 [4, 5, 6]) .ret) .skip)) (.seq (.seq (.reg r_tollbarref1_Get_10 [0, 1, 7, 43]) (.cond (.t 43) (.seq (.reg r_tollbarref1_Get_11 [4, 5, 6]) .ret) .skip)) (.seq (.reg r_tollbarref1_Get_12 [0, 1, 7, 8]) (.seq (.seq (.reg r_tollbarref1_Get_13 [0, 1, 7, 8, 9]) (.blk 0 (.loop l_tollbarref1_Get_0))) (.seq (.reg r_tollbarref1_Get_19 [4, 5, 6]) .ret))))))))))⟩
theorem ok_tollbarref1_Get : okFun Try.prog n_tollbarref1_Get c_tollbarref1_Get = true := by kernel_rfl

/- tollbarref1_List -/
def n_tollbarref1_List : Nat := 36
def r_tollbarref1_List_0 : List O :=
  [⟨(some 2), none, .mov (.c (.slice none 0 0))⟩,
   ⟨(some 3), none, .mov (.c (.int .i64 0))⟩]
def r_tollbarref1_List_1 : List O :=
  [⟨(some 4), none, .mov (.c (.slice none 0 0))⟩]
def r_tollbarref1_List_2 : List O :=
  [⟨(some 5), none, .mov (.c (.int .i64 0))⟩]
def r_tollbarref1_List_3 : List O :=
  [⟨(some 9), none, .mov (.t 5)⟩,
   ⟨(some 10), none, .mov (.t 0)⟩,
   ⟨(some 11), none, .lens (.t 10)⟩,
   ⟨(some 12), none, .bin .lss (.t 9) (.t 11)⟩]
def r_tollbarref1_List_4 : List O :=
  [⟨(some 14), none, .mov (.t 0)⟩,
   ⟨(some 15), none, .mov (.t 5)⟩,
   ⟨(some 16), none, .call n_tollbarref1_Get [(.t 14), (.t 15)]⟩,
   ⟨(some 13), none, .mov (.t 16)⟩,
   ⟨(some 17), none, .ext (.t 13) 0⟩,
   ⟨(some 18), none, .ext (.t 13) 1⟩,
   ⟨(some 19), none, .ext (.t 13) 2⟩,
   ⟨(some 6), none, .mov (.t 17)⟩,
   ⟨(some 7), none, .mov (.t 18)⟩,
   ⟨(some 8), none, .mov (.t 19)⟩]
def r_tollbarref1_List_5 : List O :=
  [⟨(some 20), none, .mov (.t 8)⟩,
   ⟨(some 21), none, .bin .neq (.t 20) (.c (.int .i64 0))⟩]
def r_tollbarref1_List_6 : List O :=
  [⟨(some 22), none, .mov (.t 8)⟩,
   ⟨(some 2), none, .mov (.c (.slice none 0 0))⟩,
   ⟨(some 3), none, .mov (.t 22)⟩]
def r_tollbarref1_List_7 : List O :=
  [⟨(some 23), none, .mov (.t 4)⟩,
   ⟨(some 24), none, .mov (.t 6)⟩,
   ⟨(some 25), none, .bsl 1 [(.int .i64 0)] 1 [(0, (.t 24))]⟩,
   ⟨(some 26), none, .app 3 1 8 (.t 23) (.t 25)⟩,
   ⟨(some 4), none, .mov (.t 26)⟩]
def r_tollbarref1_List_8 : List O :=
  [⟨(some 27), none, .mov (.t 7)⟩,
   ⟨(some 5), none, .mov (.t 27)⟩]
def l_tollbarref1_List_0 : C := (.seq (.seq (.reg r_tollbarref1_List_3 [0, 4, 5, 12]) (.cond (.t 12) .skip (.exit 0))) (.blk 1 (.seq (.reg r_tollbarref1_List_4 [0, 4, 6, 7, 8]) (.seq (.seq (.reg r_tollbarref1_List_5 [0, 4, 6, 7, 8, 21]) (.cond (.t 21) (.seq (.reg r_tollbarref1_List_6 [2, 3]) .ret) .skip)) (.seq (.reg r_tollbarref1_List_7 [0, 4, 7]) (.reg r_tollbarref1_List_8 [0, 4, 5]))))))
def r_tollbarref1_List_9 : List O :=
  [⟨(some 28), none, .mov (.t 4)⟩,
   ⟨(some 2), none, .mov (.t 28)⟩,
   ⟨(some 3), none, .mov (.c (.int .i64 0))⟩]
def c_tollbarref1_List : MF := ⟨1, [.t 2, .t 3], (.seq (.reg r_tollbarref1_List_0 [0]) (.seq (.reg r_tollbarref1_List_1 [0, 4]) (.seq (.seq (.reg r_tollbarref1_List_2 [0, 4, 5]) (.blk 0 (.loop l_tollbarref1_List_0))) (.seq (.reg r_tollbarref1_List_9 [2, 3]) .ret))))⟩
theorem ok_tollbarref1_List : okFun Try.prog n_tollbarref1_List c_tollbarref1_List = true := by kernel_rfl

/- tollbarref22_front -/
def n_tollbarref22_front : Nat := 57
def r_tollbarref22_front_0 : List O :=
  [⟨(some 4), none, .mov (.c (.slice none 0 0))⟩,
   ⟨(some 5), none, .mov (.c (.slice none 0 0))⟩,
   ⟨(some 6), none, .mov (.c (.bool false))⟩]
def r_tollbarref22_front_1 : List O :=
  [⟨(some 7), none, .mov (.t 1)⟩,
   ⟨(some 8), none, .bin .lss (.t 7) (.c (.int .i64 0))⟩,
   ⟨(some 9), none, .mov (.t 8)⟩,
   ⟨(some 10), (some (9, false)), .mov (.t 1)⟩,
   ⟨(some 11), (some (9, false)), .mov (.t 0)⟩,
   ⟨(some 12), (some (9, false)), .len (.t 11)⟩,
   ⟨(some 13), (some (9, false)), .bin .gtr (.t 10) (.t 12)⟩,
   ⟨(some 14), none, .pick (.t 9) (.c (.bool true)) (.t 13)⟩]
def r_tollbarref22_front_2 : List O :=
  [⟨(some 4), none, .mov (.c (.slice none 0 0))⟩,
   ⟨(some 5), none, .mov (.c (.slice none 0 0))⟩,
   ⟨(some 6), none, .mov (.c (.bool false))⟩]
def r_tollbarref22_front_3 : List D :=
  [⟨⟨(some 15), none, .bsl 1 [(.int .i64 0)] 0 []⟩, []⟩,
   ⟨⟨(some 16), none, .mov (.t 0)⟩, []⟩,
   ⟨⟨(some 17), none, .mov (.t 1)⟩, []⟩,
   ⟨⟨(some 18), none, .slc 1 (.t 16) none (some (.t 17)) none⟩, [0]⟩,
   ⟨⟨(some 19), none, .app 3 1 8 (.t 15) (.t 18)⟩, []⟩,
   ⟨⟨(some 20), none, .mov (.t 0)⟩, []⟩,
   ⟨⟨(some 21), none, .mov (.t 1)⟩, []⟩,
   ⟨⟨(some 22), none, .slc 1 (.t 20) (some (.t 21)) none none⟩, [0, 4]⟩,
   ⟨⟨(some 4), none, .mov (.t 19)⟩, []⟩,
   ⟨⟨(some 5), none, .mov (.t 22)⟩, []⟩,
   ⟨⟨(some 6), none, .mov (.c (.bool true))⟩, []⟩]
def c_tollbarref22_front : MF := ⟨2, [.t 4, .t 5, .t 6], (.seq (.reg r_tollbarref22_front_0 [0, 1]) (.seq (.seq (.reg r_tollbarref22_front_1 [0, 1, 14]) (.cond (.t 14) (.seq (.reg r_tollbarref22_front_2 [4, 5, 6]) .ret) .skip)) (.seq (.dreg r_tollbarref22_front_3 [4, 5, 6]) .ret)))⟩
theorem ok_tollbarref22_front : okFun Try.prog n_tollbarref22_front c_tollbarref22_front = true := by kernel_rfl

/- tollbarref22_readPaths -/
def n_tollbarref22_readPaths : Nat := 58
def r_tollbarref22_readPaths_0 : List O :=
  [⟨(some 4), none, .mov (.c (.slice none 0 0))⟩,
   ⟨(some 5), none, .mov (.c (.slice none 0 0))⟩,
   ⟨(some 6), none, .mov (.c (.bool false))⟩]
def r_tollbarref22_readPaths_1 : List O :=
  [⟨(some 7), none, .mov (.c (.slice none 0 0))⟩]
def r_tollbarref22_readPaths_2 : List O :=
  [⟨(some 15), none, .mov (.t 1)⟩,
   ⟨(some 16), none, .mov (.t 0)⟩,
   ⟨(some 17), none, .len (.t 16)⟩,
   ⟨(some 18), none, .bin .gtr (.t 15) (.t 17)⟩]
def r_tollbarref22_readPaths_3 : List O :=
  [⟨(some 4), none, .mov (.c (.slice none 0 0))⟩,
   ⟨(some 5), none, .mov (.c (.slice none 0 0))⟩,
   ⟨(some 6), none, .mov (.c (.bool false))⟩]
def r_tollbarref22_readPaths_4 : List O :=
  [⟨(some 8), none, .mov (.c (.int .i64 0))⟩]
def r_tollbarref22_readPaths_5 : List O :=
  [⟨(some 19), none, .mov (.t 8)⟩,
   ⟨(some 20), none, .mov (.t 1)⟩,
   ⟨(some 21), none, .bin .lss (.t 19) (.t 20)⟩]
def r_tollbarref22_readPaths_6 : List O :=
  [⟨(some 25), none, .mov (.t 0)⟩,
   ⟨(some 26), none, .call n_tollbarref22_front [(.t 25), (.c (.int .i64 2))]⟩,
   ⟨(some 24), none, .mov (.t 26)⟩,
   ⟨(some 27), none, .ext (.t 24) 0⟩,
   ⟨(some 28), none, .ext (.t 24) 1⟩,
   ⟨(some 29), none, .ext (.t 24) 2⟩,
   ⟨(some 9), none, .mov (.t 27)⟩,
   ⟨(some 10), none, .mov (.t 28)⟩,
   ⟨(some 11), none, .mov (.t 29)⟩]
def r_tollbarref22_readPaths_7 : List O :=
  [⟨(some 30), none, .mov (.t 11)⟩,
   ⟨(some 31), none, .un .not (.t 30)⟩]
def r_tollbarref22_readPaths_8 : List O :=
  [⟨(some 4), none, .mov (.c (.slice none 0 0))⟩,
   ⟨(some 5), none, .mov (.c (.slice none 0 0))⟩,
   ⟨(some 6), none, .mov (.c (.bool false))⟩]
def r_tollbarref22_readPaths_9 : List O :=
  [⟨(some 33), none, .mov (.t 10)⟩,
   ⟨(some 34), none, .mov (.t 9)⟩,
   ⟨(some 35), none, .ia 1 (.t 34) (.c (.int .i64 1))⟩,
   ⟨(some 36), none, .load false 1 (.t 35)⟩,
   ⟨(some 37), none, .call n_tollbarref22_front [(.t 33), (.t 36)]⟩,
   ⟨(some 32), none, .mov (.t 37)⟩,
   ⟨(some 38), none, .ext (.t 32) 0⟩,
   ⟨(some 39), none, .ext (.t 32) 1⟩,
   ⟨(some 40), none, .ext (.t 32) 2⟩,
   ⟨(some 12), none, .mov (.t 38)⟩,
   ⟨(some 13), none, .mov (.t 39)⟩,
   ⟨(some 14), none, .mov (.t 40)⟩]
def r_tollbarref22_readPaths_10 : List O :=
  [⟨(some 41), none, .mov (.t 14)⟩,
   ⟨(some 42), none, .un .not (.t 41)⟩]
def r_tollbarref22_readPaths_11 : List O :=
  [⟨(some 4), none, .mov (.c (.slice none 0 0))⟩,
   ⟨(some 5), none, .mov (.c (.slice none 0 0))⟩,
   ⟨(some 6), none, .mov (.c (.bool false))⟩]
def r_tollbarref22_readPaths_12 : List O :=
  [⟨(some 43), none, .mov (.t 7)⟩,
   ⟨(some 44), none, .mov (.t 9)⟩,
   ⟨(some 45), none, .ia 1 (.t 44) (.c (.int .i64 0))⟩,
   ⟨(some 46), none, .load false 1 (.t 45)⟩,
   ⟨(some 47), none, .mov (.t 12)⟩,
   ⟨(some 48), none, .build [(.int .i64 0), (.slice none 0 0)] [(0, 1, (.t 46)), (1, 1, (.t 47))]⟩,
   ⟨(some 49), none, .bsl 2 [(.int .i64 0), (.slice none 0 0)] 1 [(0, (.t 48))]⟩,
   ⟨(some 50), none, .app 54 2 32 (.t 43) (.t 49)⟩,
   ⟨(some 7), none, .mov (.t 50)⟩]
def r_tollbarref22_readPaths_13 : List O :=
  [⟨(some 51), none, .mov (.t 13)⟩,
   ⟨(some 0), none, .mov (.t 51)⟩]
def r_tollbarref22_readPaths_14 : List O :=
  [⟨(some 22), none, .mov (.t 8)⟩,
   ⟨(some 23), none, .bin .add (.t 22) (.c (.int .i64 1))⟩,
   ⟨(some 8), none, .mov (.t 23)⟩]
def l_tollbarref22_readPaths_0 : C := (.seq (.seq (.reg r_tollbarref22_readPaths_5 [0, 1, 7, 8, 21]) (.cond (.t 21) .skip (.exit 0))) (.seq (.blk 1 (.seq (.reg r_tollbarref22_readPaths_6 [1, 7, 8, 9, 10, 11]) (.seq (.seq (.reg r_tollbarref22_readPaths_7 [1, 7, 8, 9, 10, 31]) (.cond (.t 31) (.seq (.reg r_tollbarref22_readPaths_8 [4, 5, 6]) .ret) .skip)) (.seq (.reg r_tollbarref22_readPaths_9 [1, 7, 8, 9, 12, 13, 14]) (.seq (.seq (.reg r_tollbarref22_readPaths_10 [1, 7, 8, 9, 12, 13, 42]) (.cond (.t 42) (.seq (.reg r_tollbarref22_readPaths_11 [4, 5, 6]) .ret) .skip)) (.seq (.reg r_tollbarref22_readPaths_12 [1, 7, 8, 13]) (.reg r_tollbarref22_readPaths_13 [0, 1, 7, 8]))))))) (.reg r_tollbarref22_readPaths_14 [0, 1, 7, 8])))
def r_tollbarref22_readPaths_15 : List O :=
  [⟨(some 52), none, .mov (.t 7)⟩,
   ⟨(some 53), none, .mov (.t 0)⟩,
   ⟨(some 4), none, .mov (.t 52)⟩,
   ⟨(some 5), none, .mov (.t 53)⟩,
   ⟨(some 6), none, .mov (.c (.bool true))⟩]
def c_tollbarref22_readPaths : MF := ⟨2, [.t 4, .t 5, .t 6], (.seq (.reg r_tollbarref22_readPaths_0 [0, 1]) (.seq (.reg r_tollbarref22_readPaths_1 [0, 1, 7]) (.seq (.seq (.reg r_tollbarref22_readPaths_2 [0, 1, 7, 18]) (.cond (.t 18) (.seq (.reg r_tollbarref22_readPaths_3 [4, 5, 6]) .ret) .skip)) (.seq (.seq (.reg r_tollbarref22_readPaths_4 [0, 1, 7, 8]) (.blk 0 (.loop l_tollbarref22_readPaths_0))) (.seq (.reg r_tollbarref22_readPaths_15 [4, 5, 6]) .ret)))))⟩
theorem ok_tollbarref22_readPaths : okFun Try.prog n_tollbarref22_readPaths c_tollbarref22_readPaths = true := by kernel_rfl

/- tollbarref22_readGrant -/
def n_tollbarref22_readGrant : Nat := 37
def r_tollbarref22_readGrant_0 : List O :=
  [⟨(some 2), none, .alloc 29 [(.int .i64 0), (.int .i64 0), (.int .i64 0), (.slice none 0 0), (.int .i64 0), (.int .i64 0), (.int .i64 0), (.int .i64 0), (.int .i64 0), (.slice none 0 0)]⟩,
   ⟨(some 3), none, .mov (.c (.bool false))⟩]
def r_tollbarref22_readGrant_1 : List O :=
  [⟨(some 16), none, .mov (.t 0)⟩,
   ⟨(some 17), none, .call n_tollbarref22_front [(.t 16), (.c (.int .i64 5))]⟩,
   ⟨(some 15), none, .mov (.t 17)⟩,
   ⟨(some 18), none, .ext (.t 15) 0⟩,
   ⟨(some 19), none, .ext (.t 15) 1⟩,
   ⟨(some 20), none, .ext (.t 15) 2⟩,
   ⟨(some 4), none, .mov (.t 18)⟩,
   ⟨(some 5), none, .mov (.t 19)⟩,
   ⟨(some 6), none, .mov (.t 20)⟩]
def r_tollbarref22_readGrant_2 : List O :=
  [⟨(some 21), none, .mov (.t 6)⟩,
   ⟨(some 22), none, .un .not (.t 21)⟩,
   ⟨(some 23), none, .mov (.t 22)⟩,
   ⟨(some 24), (some (23, false)), .mov (.t 4)⟩,
   ⟨(some 25), (some (23, false)), .ia 1 (.t 24) (.c (.int .i64 4))⟩,
   ⟨(some 26), (some (23, false)), .load false 1 (.t 25)⟩,
   ⟨(some 27), (some (23, false)), .mov (.t 5)⟩,
   ⟨(some 28), (some (23, false)), .len (.t 27)⟩,
   ⟨(some 29), (some (23, false)), .bin .gtr (.t 26) (.t 28)⟩,
   ⟨(some 30), none, .pick (.t 23) (.c (.bool true)) (.t 29)⟩]
def r_tollbarref22_readGrant_3 : List O :=
  [⟨(some 31), none, .build [(.int .i64 0), (.int .i64 0), (.int .i64 0), (.slice none 0 0), (.int .i64 0), (.int .i64 0), (.int .i64 0), (.int .i64 0), (.int .i64 0), (.slice none 0 0)] []⟩,
   ⟨none, none, .store 10 (.t 2) (.t 31)⟩,
   ⟨(some 3), none, .mov (.c (.bool false))⟩]
def r_tollbarref22_readGrant_4 : List D :=
  [⟨⟨(some 32), none, .mov (.t 4)⟩, []⟩,
   ⟨⟨(some 33), none, .ia 1 (.t 32) (.c (.int .i64 0))⟩, []⟩,
   ⟨⟨(some 34), none, .load false 1 (.t 33)⟩, []⟩,
   ⟨⟨(some 35), none, .mov (.t 4)⟩, []⟩,
   ⟨⟨(some 36), none, .ia 1 (.t 35) (.c (.int .i64 1))⟩, []⟩,
   ⟨⟨(some 37), none, .load false 1 (.t 36)⟩, []⟩,
   ⟨⟨(some 38), none, .mov (.t 4)⟩, []⟩,
   ⟨⟨(some 39), none, .ia 1 (.t 38) (.c (.int .i64 2))⟩, []⟩,
   ⟨⟨(some 40), none, .load false 1 (.t 39)⟩, []⟩,
   ⟨⟨(some 41), none, .mov (.t 4)⟩, []⟩,
   ⟨⟨(some 42), none, .ia 1 (.t 41) (.c (.int .i64 3))⟩, []⟩,
   ⟨⟨(some 43), none, .load false 1 (.t 42)⟩, []⟩,
   ⟨⟨(some 44), none, .build [(.int .i64 0), (.int .i64 0)] [(0, 1, (.t 40)), (1, 1, (.t 43))]⟩, []⟩,
   ⟨⟨(some 45), none, .build [(.int .i64 0), (.int .i64 0), (.int .i64 0), (.slice none 0 0), (.int .i64 0), (.int .i64 0), (.int .i64 0), (.int .i64 0), (.int .i64 0), (.slice none 0 0)] [(4, 1, (.c (.int .i64 2))), (6, 1, (.t 34)), (7, 1, (.t 37)), (0, 2, (.t 44))]⟩, []⟩,
   ⟨⟨(some 7), none, .alloc 29 [(.int .i64 0), (.int .i64 0), (.int .i64 0), (.slice none 0 0), (.int .i64 0), (.int .i64 0), (.int .i64 0), (.int .i64 0), (.int .i64 0), (.slice none 0 0)]⟩, []⟩,
   ⟨⟨none, none, .store 10 (.t 7) (.t 45)⟩, []⟩]
def r_tollbarref22_readGrant_5 : List O :=
  [⟨(some 8), none, .mov (.c (.int .i64 0))⟩]
def r_tollbarref22_readGrant_6 : List O :=
  [⟨(some 46), none, .mov (.t 8)⟩,
   ⟨(some 47), none, .mov (.t 4)⟩,
   ⟨(some 48), none, .ia 1 (.t 47) (.c (.int .i64 4))⟩,
   ⟨(some 49), none, .load false 1 (.t 48)⟩,
   ⟨(some 50), none, .bin .lss (.t 46) (.t 49)⟩]
def r_tollbarref22_readGrant_7 : List O :=
  [⟨(some 54), none, .mov (.t 5)⟩,
   ⟨(some 55), none, .call n_tollbarref22_front [(.t 54), (.c (.int .i64 3))]⟩,
   ⟨(some 53), none, .mov (.t 55)⟩,
   ⟨(some 56), none, .ext (.t 53) 0⟩,
   ⟨(some 57), none, .ext (.t 53) 1⟩,
   ⟨(some 58), none, .ext (.t 53) 2⟩,
   ⟨(some 9), none, .mov (.t 56)⟩,
   ⟨(some 10), none, .mov (.t 57)⟩,
   ⟨(some 11), none, .mov (.t 58)⟩]
def r_tollbarref22_readGrant_8 : List O :=
  [⟨(some 59), none, .mov (.t 11)⟩,
   ⟨(some 60), none, .un .not (.t 59)⟩]
def r_tollbarref22_readGrant_9 : List O :=
  [⟨(some 61), none, .build [(.int .i64 0), (.int .i64 0), (.int .i64 0), (.slice none 0 0), (.int .i64 0), (.int .i64 0), (.int .i64 0), (.int .i64 0), (.int .i64 0), (.slice none 0 0)] []⟩,
   ⟨none, none, .store 10 (.t 2) (.t 61)⟩,
   ⟨(some 3), none, .mov (.c (.bool false))⟩]
def r_tollbarref22_readGrant_10 : List O :=
  [⟨(some 63), none, .mov (.t 10)⟩,
   ⟨(some 64), none, .mov (.t 9)⟩,
   ⟨(some 65), none, .ia 1 (.t 64) (.c (.int .i64 2))⟩,
   ⟨(some 66), none, .load false 1 (.t 65)⟩,
   ⟨(some 67), none, .call n_tollbarref22_readPaths [(.t 63), (.t 66)]⟩,
   ⟨(some 62), none, .mov (.t 67)⟩,
   ⟨(some 68), none, .ext (.t 62) 0⟩,
   ⟨(some 69), none, .ext (.t 62) 1⟩,
   ⟨(some 70), none, .ext (.t 62) 2⟩,
   ⟨(some 12), none, .mov (.t 68)⟩,
   ⟨(some 13), none, .mov (.t 69)⟩,
   ⟨(some 14), none, .mov (.t 70)⟩]
def r_tollbarref22_readGrant_11 : List O :=
  [⟨(some 71), none, .mov (.t 14)⟩,
   ⟨(some 72), none, .un .not (.t 71)⟩]
def r_tollbarref22_readGrant_12 : List O :=
  [⟨(some 73), none, .build [(.int .i64 0), (.int .i64 0), (.int .i64 0), (.slice none 0 0), (.int .i64 0), (.int .i64 0), (.int .i64 0), (.int .i64 0), (.int .i64 0), (.slice none 0 0)] []⟩,
   ⟨none, none, .store 10 (.t 2) (.t 73)⟩,
   ⟨(some 3), none, .mov (.c (.bool false))⟩]
def r_tollbarref22_readGrant_13 : List D :=
  [⟨⟨(some 74), none, .fa 9 (.t 7)⟩, []⟩,
   ⟨⟨(some 75), none, .load false 1 (.t 74)⟩, []⟩,
   ⟨⟨(some 76), none, .mov (.t 9)⟩, []⟩,
   ⟨⟨(some 77), none, .ia 1 (.t 76) (.c (.int .i64 0))⟩, []⟩,
   ⟨⟨(some 78), none, .load false 1 (.t 77)⟩, []⟩,
   ⟨⟨(some 79), none, .mov (.t 9)⟩, []⟩,
   ⟨⟨(some 80), none, .ia 1 (.t 79) (.c (.int .i64 1))⟩, []⟩,
   ⟨⟨(some 81), none, .load false 1 (.t 80)⟩, []⟩,
   ⟨⟨(some 82), none, .build [(.int .i64 0), (.int .i64 0)] [(0, 1, (.t 78)), (1, 1, (.t 81))]⟩, []⟩,
   ⟨⟨(some 83), none, .mov (.t 12)⟩, []⟩,
   ⟨⟨(some 84), none, .build [(.int .i64 0), (.int .i64 0), (.slice none 0 0)] [(0, 2, (.t 82)), (2, 1, (.t 83))]⟩, []⟩,
   ⟨⟨(some 85), none, .bsl 3 [(.int .i64 0), (.int .i64 0), (.slice none 0 0)] 1 [(0, (.t 84))]⟩, [1]⟩,
   ⟨⟨(some 86), none, .app 52 3 40 (.t 75) (.t 85)⟩, []⟩,
   ⟨⟨(some 87), none, .fa 9 (.t 7)⟩, []⟩,
   ⟨⟨none, none, .store 1 (.t 87) (.t 86)⟩, []⟩]
def r_tollbarref22_readGrant_14 : List O :=
  [⟨(some 88), none, .mov (.t 13)⟩,
   ⟨(some 5), none, .mov (.t 88)⟩]
def r_tollbarref22_readGrant_15 : List O :=
  [⟨(some 51), none, .mov (.t 8)⟩,
   ⟨(some 52), none, .bin .add (.t 51) (.c (.int .i64 1))⟩,
   ⟨(some 8), none, .mov (.t 52)⟩]
def l_tollbarref22_readGrant_0 : C := (.seq (.seq (.reg r_tollbarref22_readGrant_6 [2, 4, 5, 7, 8, 50]) (.cond (.t 50) .skip (.exit 0))) (.seq (.blk 1 (.seq (.reg r_tollbarref22_readGrant_7 [2, 4, 7, 8, 9, 10, 11]) (.seq (.seq (.reg r_tollbarref22_readGrant_8 [2, 4, 7, 8, 9, 10, 60]) (.cond (.t 60) (.seq (.reg r_tollbarref22_readGrant_9 [2, 3]) .ret) .skip)) (.seq (.reg r_tollbarref22_readGrant_10 [2, 4, 7, 8, 9, 12, 13, 14]) (.seq (.seq (.reg r_tollbarref22_readGrant_11 [2, 4, 7, 8, 9, 12, 13, 72]) (.cond (.t 72) (.seq (.reg r_tollbarref22_readGrant_12 [2, 3]) .ret) .skip)) (.seq (.dreg r_tollbarref22_readGrant_13 [2, 4, 7, 8, 13]) (.reg r_tollbarref22_readGrant_14 [2, 4, 5, 7, 8]))))))) (.reg r_tollbarref22_readGrant_15 [2, 4, 5, 7, 8])))
def r_tollbarref22_readGrant_16 : List O :=
  [⟨(some 89), none, .load true 10 (.t 7)⟩,
   ⟨(some 90), none, .mov (.t 5)⟩,
   ⟨(some 91), none, .len (.t 90)⟩,
   ⟨(some 92), none, .bin .eql (.t 91) (.c (.int .i64 0))⟩,
   ⟨none, none, .store 10 (.t 2) (.t 89)⟩,
   ⟨(some 3), none, .mov (.t 92)⟩]
def c_tollbarref22_readGrant : MF := ⟨1, [.c 2 true 10, .t 3], (.seq (.reg r_tollbarref22_readGrant_0 [0, 2]) (.seq (.reg r_tollbarref22_readGrant_1 [2, 4, 5, 6]) (.seq (.seq (.reg r_tollbarref22_readGrant_2 [2, 4, 5, 30]) (.cond (.t 30) (.seq (.reg r_tollbarref22_readGrant_3 [2, 3]) .ret) .skip)) (.seq (.dreg r_tollbarref22_readGrant_4 [2, 4, 5, 7]) (.seq (.seq (.reg r_tollbarref22_readGrant_5 [2, 4, 5, 7, 8]) (.blk 0 (.loop l_tollbarref22_readGrant_0))) (.seq (.reg r_tollbarref22_readGrant_16 [2, 3]) .ret))))))⟩
theorem ok_tollbarref22_readGrant : okFun Try.prog n_tollbarref22_readGrant c_tollbarref22_readGrant = true := by kernel_rfl

/- tollbarref22_ReadTell -/
def n_tollbarref22_ReadTell : Nat := 17
def r_tollbarref22_ReadTell_0 : List O :=
  [⟨(some 2), none, .alloc 29 [(.int .i64 0), (.int .i64 0), (.int .i64 0), (.slice none 0 0), (.int .i64 0), (.int .i64 0), (.int .i64 0), (.int .i64 0), (.int .i64 0), (.slice none 0 0)]⟩,
   ⟨(some 3), none, .mov (.c (.int .i64 0))⟩]
def r_tollbarref22_ReadTell_1 : List O :=
  [⟨(some 9), none, .mov (.t 0)⟩,
   ⟨(some 10), none, .call n_tollbarref1_List [(.t 9)]⟩,
   ⟨(some 8), none, .mov (.t 10)⟩,
   ⟨(some 11), none, .ext (.t 8) 0⟩,
   ⟨(some 12), none, .ext (.t 8) 1⟩,
   ⟨(some 4), none, .mov (.t 11)⟩,
   ⟨(some 5), none, .mov (.t 12)⟩]
def r_tollbarref22_ReadTell_2 : List O :=
  [⟨(some 13), none, .mov (.t 5)⟩,
   ⟨(some 14), none, .bin .neq (.t 13) (.c (.int .i64 0))⟩,
   ⟨(some 15), none, .mov (.t 14)⟩,
   ⟨(some 16), (some (15, false)), .mov (.t 4)⟩,
   ⟨(some 17), (some (15, false)), .len (.t 16)⟩,
   ⟨(some 18), (some (15, false)), .bin .eql (.t 17) (.c (.int .i64 0))⟩,
   ⟨(some 19), none, .pick (.t 15) (.c (.bool true)) (.t 18)⟩]
def r_tollbarref22_ReadTell_3 : List O :=
  [⟨(some 20), none, .build [(.int .i64 0), (.int .i64 0), (.int .i64 0), (.slice none 0 0), (.int .i64 0), (.int .i64 0), (.int .i64 0), (.int .i64 0), (.int .i64 0), (.slice none 0 0)] []⟩,
   ⟨none, none, .store 10 (.t 2) (.t 20)⟩,
   ⟨(some 3), none, .mov (.c (.int .i64 2300))⟩]
def r_tollbarref22_ReadTell_4 : List O :=
  [⟨(some 21), none, .mov (.t 4)⟩,
   ⟨(some 22), none, .ia 1 (.t 21) (.c (.int .i64 0))⟩,
   ⟨(some 23), none, .load false 1 (.t 22)⟩,
   ⟨(some 24), none, .build [(.int .i64 0), (.int .i64 0), (.int .i64 0), (.slice none 0 0), (.int .i64 0), (.int .i64 0), (.int .i64 0), (.int .i64 0), (.int .i64 0), (.slice none 0 0)] [(4, 1, (.t 23))]⟩,
   ⟨(some 6), none, .alloc 29 [(.int .i64 0), (.int .i64 0), (.int .i64 0), (.slice none 0 0), (.int .i64 0), (.int .i64 0), (.int .i64 0), (.int .i64 0), (.int .i64 0), (.slice none 0 0)]⟩,
   ⟨none, none, .store 10 (.t 6) (.t 24)⟩]
def r_tollbarref22_ReadTell_5 : List O :=
  [⟨(some 7), none, .mov (.c (.bool false))⟩]
def r_tollbarref22_ReadTell_6 : List O :=
  [⟨(some 25), none, .mov (.t 4)⟩,
   ⟨(some 26), none, .ia 1 (.t 25) (.c (.int .i64 0))⟩,
   ⟨(some 27), none, .load false 1 (.t 26)⟩]
def r_tollbarref22_ReadTell_7 : List O :=
  [⟨(some 29), none, .bin .eql (.t 27) (.c (.int .i64 1))⟩,
   ⟨(some 28), none, .mov (.t 29)⟩]
def r_tollbarref22_ReadTell_8 : List O :=
  [⟨(some 30), none, .mov (.t 4)⟩,
   ⟨(some 31), none, .len (.t 30)⟩,
   ⟨(some 32), none, .bin .eql (.t 31) (.c (.int .i64 2))⟩,
   ⟨(some 7), none, .mov (.t 32)⟩]
def r_tollbarref22_ReadTell_9 : List O :=
  [⟨(some 33), none, .mov (.t 7)⟩]
def r_tollbarref22_ReadTell_10 : List O :=
  [⟨(some 34), none, .mov (.t 4)⟩,
   ⟨(some 35), none, .ia 1 (.t 34) (.c (.int .i64 1))⟩,
   ⟨(some 36), none, .load false 1 (.t 35)⟩,
   ⟨(some 37), none, .fa 5 (.t 6)⟩,
   ⟨none, none, .store 1 (.t 37) (.t 36)⟩]
def r_tollbarref22_ReadTell_11 : List O :=
  [⟨(some 39), none, .bin .eql (.t 27) (.c (.int .i64 2))⟩,
   ⟨(some 38), none, .mov (.t 39)⟩]
def r_tollbarref22_ReadTell_12 : List O :=
  [⟨(some 41), none, .mov (.t 4)⟩,
   ⟨(some 42), none, .slc 1 (.t 41) (some (.c (.int .i64 1))) none none⟩,
   ⟨(some 43), none, .call n_tollbarref22_readGrant [(.t 42)]⟩,
   ⟨(some 40), none, .mov (.t 43)⟩,
   ⟨(some 44), none, .ext (.t 40) 0⟩,
   ⟨(some 45), none, .ext (.t 40) 1⟩,
   ⟨none, none, .store 10 (.t 6) (.t 44)⟩,
   ⟨(some 7), none, .mov (.t 45)⟩]
def r_tollbarref22_ReadTell_13 : List O :=
  [⟨(some 47), none, .bin .eql (.t 27) (.c (.int .i64 3))⟩,
   ⟨(some 46), none, .mov (.t 47)⟩]
def r_tollbarref22_ReadTell_14 : List O :=
  [⟨(some 48), none, .mov (.t 4)⟩,
   ⟨(some 49), none, .len (.t 48)⟩,
   ⟨(some 50), none, .bin .geq (.t 49) (.c (.int .i64 3))⟩,
   ⟨(some 51), none, .mov (.t 50)⟩,
   ⟨(some 52), (some (51, true)), .mov (.t 4)⟩,
   ⟨(some 53), (some (51, true)), .ia 1 (.t 52) (.c (.int .i64 2))⟩,
   ⟨(some 54), (some (51, true)), .load false 1 (.t 53)⟩,
   ⟨(some 55), (some (51, true)), .mov (.t 4)⟩,
   ⟨(some 56), (some (51, true)), .len (.t 55)⟩,
   ⟨(some 57), (some (51, true)), .bin .sub (.t 56) (.c (.int .i64 3))⟩,
   ⟨(some 58), (some (51, true)), .bin .eql (.t 54) (.t 57)⟩,
   ⟨(some 59), none, .pick (.t 51) (.t 58) (.c (.bool false))⟩,
   ⟨(some 7), none, .mov (.t 59)⟩]
def r_tollbarref22_ReadTell_15 : List O :=
  [⟨(some 60), none, .mov (.t 7)⟩]
def r_tollbarref22_ReadTell_16 : List D :=
  [⟨⟨(some 61), none, .mov (.t 4)⟩, []⟩,
   ⟨⟨(some 62), none, .ia 1 (.t 61) (.c (.int .i64 1))⟩, []⟩,
   ⟨⟨(some 63), none, .load false 1 (.t 62)⟩, []⟩,
   ⟨⟨(some 64), none, .bsl 1 [(.int .i64 0)] 0 []⟩, [2]⟩,
   ⟨⟨(some 65), none, .mov (.t 4)⟩, []⟩,
   ⟨⟨(some 66), none, .slc 1 (.t 65) (some (.c (.int .i64 3))) none none⟩, [3]⟩,
   ⟨⟨(some 67), none, .app 3 1 8 (.t 64) (.t 66)⟩, [2]⟩,
   ⟨⟨(some 68), none, .build [(.int .i64 0), (.slice none 0 0)] [(0, 1, (.t 63)), (1, 1, (.t 67))]⟩, []⟩,
   ⟨⟨(some 69), none, .fa 2 (.t 6)⟩, []⟩,
   ⟨⟨none, none, .store 2 (.t 69) (.t 68)⟩, []⟩]
def r_tollbarref22_ReadTell_17 : List O :=
  [⟨(some 71), none, .bin .eql (.t 27) (.c (.int .i64 4))⟩,
   ⟨(some 70), none, .mov (.t 71)⟩]
def r_tollbarref22_ReadTell_18 : List O :=
  [⟨(some 72), none, .mov (.t 4)⟩,
   ⟨(some 73), none, .len (.t 72)⟩,
   ⟨(some 74), none, .bin .eql (.t 73) (.c (.int .i64 1))⟩,
   ⟨(some 7), none, .mov (.t 74)⟩]
def r_tollbarref22_ReadTell_19 : List O :=
  [⟨(some 76), none, .bin .eql (.t 27) (.c (.int .i64 5))⟩,
   ⟨(some 75), none, .mov (.t 76)⟩]
def r_tollbarref22_ReadTell_20 : List O :=
  [⟨(some 77), none, .mov (.t 4)⟩,
   ⟨(some 78), none, .len (.t 77)⟩,
   ⟨(some 79), none, .bin .eql (.t 78) (.c (.int .i64 2))⟩,
   ⟨(some 7), none, .mov (.t 79)⟩]
def r_tollbarref22_ReadTell_21 : List O :=
  [⟨(some 80), none, .mov (.t 7)⟩]
def r_tollbarref22_ReadTell_22 : List O :=
  [⟨(some 81), none, .mov (.t 4)⟩,
   ⟨(some 82), none, .ia 1 (.t 81) (.c (.int .i64 1))⟩,
   ⟨(some 83), none, .load false 1 (.t 82)⟩,
   ⟨(some 84), none, .fa 8 (.t 6)⟩,
   ⟨none, none, .store 1 (.t 84) (.t 83)⟩]
def r_tollbarref22_ReadTell_23 : List O :=
  [⟨(some 85), none, .mov (.t 7)⟩,
   ⟨(some 86), none, .un .not (.t 85)⟩,
   ⟨(some 87), none, .mov (.t 86)⟩,
   ⟨(some 88), (some (87, false)), .load true 10 (.t 6)⟩,
   ⟨(some 89), (some (87, false)), .call n_tollbarref22_ReplyMay [(.t 88)]⟩,
   ⟨(some 90), (some (87, false)), .un .not (.t 89)⟩,
   ⟨(some 91), none, .pick (.t 87) (.c (.bool true)) (.t 90)⟩]
def r_tollbarref22_ReadTell_24 : List O :=
  [⟨(some 92), none, .build [(.int .i64 0), (.int .i64 0), (.int .i64 0), (.slice none 0 0), (.int .i64 0), (.int .i64 0), (.int .i64 0), (.int .i64 0), (.int .i64 0), (.slice none 0 0)] []⟩,
   ⟨none, none, .store 10 (.t 2) (.t 92)⟩,
   ⟨(some 3), none, .mov (.c (.int .i64 2300))⟩]
def r_tollbarref22_ReadTell_25 : List O :=
  [⟨(some 93), none, .load true 10 (.t 6)⟩,
   ⟨none, none, .store 10 (.t 2) (.t 93)⟩,
   ⟨(some 3), none, .mov (.c (.int .i64 0))⟩]
def c_tollbarref22_ReadTell : MF := ⟨1, [.c 2 true 10, .t 3], (.seq (.reg r_tollbarref22_ReadTell_0 [0, 2]) (.seq (.reg r_tollbarref22_ReadTell_1 [2, 4, 5]) (.seq (.seq (.reg r_tollbarref22_ReadTell_2 [2, 4, 19]) (.cond (.t 19) (.seq (.reg r_tollbarref22_ReadTell_3 [2, 3]) .ret) .skip)) (.seq (.reg r_tollbarref22_ReadTell_4 [2, 4, 6]) (.seq (.reg r_tollbarref22_ReadTell_5 [2, 4, 6, 7]) (.seq (.seq (.reg r_tollbarref22_ReadTell_6 [2, 4, 6, 7, 27]) (.blk 0 (.seq (.reg r_tollbarref22_ReadTell_7 [2, 4, 6, 7, 27, 28]) (.cond (.t 28) (.seq (.reg r_tollbarref22_ReadTell_8 [2, 4, 6, 7]) (.seq (.reg r_tollbarref22_ReadTell_9 [2, 4, 6, 7, 33]) (.cond (.t 33) (.reg r_tollbarref22_ReadTell_10 [2, 6, 7]) .skip))) (.seq (.reg r_tollbarref22_ReadTell_11 [2, 4, 6, 7, 27, 38]) (.cond (.t 38) (.reg r_tollbarref22_ReadTell_12 [2, 6, 7]) (.seq (.reg r_tollbarref22_ReadTell_13 [2, 4, 6, 7, 27, 46]) (.cond (.t 46) (.seq (.reg r_tollbarref22_ReadTell_14 [2, 4, 6, 7]) (.seq (.reg r_tollbarref22_ReadTell_15 [2, 4, 6, 7, 60]) (.cond (.t 60) (.dreg r_tollbarref22_ReadTell_16 [2, 6, 7]) .skip))) (.seq (.reg r_tollbarref22_ReadTell_17 [2, 4, 6, 7, 27, 70]) (.cond (.t 70) (.reg r_tollbarref22_ReadTell_18 [2, 6, 7]) (.seq (.reg r_tollbarref22_ReadTell_19 [2, 4, 6, 7, 75]) (.cond (.t 75) (.seq (.reg r_tollbarref22_ReadTell_20 [2, 4, 6, 7]) (.seq (.reg r_tollbarref22_ReadTell_21 [2, 4, 6, 7, 80]) (.cond (.t 80) (.reg r_tollbarref22_ReadTell_22 [2, 6, 7]) .skip))) .skip)))))))))))) (.seq (.seq (.reg r_tollbarref22_ReadTell_23 [2, 6, 91]) (.cond (.t 91) (.seq (.reg r_tollbarref22_ReadTell_24 [2, 3]) .ret) .skip)) (.seq (.reg r_tollbarref22_ReadTell_25 [2, 3]) .ret))))))))⟩
theorem ok_tollbarref22_ReadTell : okFun Try.prog n_tollbarref22_ReadTell c_tollbarref22_ReadTell = true := by kernel_rfl

/- tollbarlaw0_SpoilInts -/
def n_tollbarlaw0_SpoilInts : Nat := 38
def r_tollbarlaw0_SpoilInts_0 : List O :=
  [⟨(some 2), none, .mov (.c (.int .i64 0))⟩]
def r_tollbarlaw0_SpoilInts_1 : List O :=
  [⟨(some 3), none, .mov (.t 2)⟩,
   ⟨(some 4), none, .mov (.t 0)⟩,
   ⟨(some 5), none, .len (.t 4)⟩,
   ⟨(some 6), none, .bin .lss (.t 3) (.t 5)⟩]
def r_tollbarlaw0_SpoilInts_2 : List O :=
  [⟨(some 9), none, .mov (.t 0)⟩,
   ⟨(some 10), none, .mov (.t 2)⟩,
   ⟨(some 11), none, .mov (.t 0)⟩,
   ⟨(some 12), none, .mov (.t 2)⟩,
   ⟨(some 13), none, .ia 1 (.t 11) (.t 12)⟩,
   ⟨(some 14), none, .load false 1 (.t 13)⟩,
   ⟨(some 15), none, .bin .rem (.t 14) (.c (.int .i64 1000))⟩,
   ⟨(some 16), none, .bin .sub (.c (.int .i64 (-9))) (.t 15)⟩,
   ⟨(some 17), none, .ia 1 (.t 9) (.t 10)⟩,
   ⟨none, none, .store 1 (.t 17) (.t 16)⟩]
def r_tollbarlaw0_SpoilInts_3 : List O :=
  [⟨(some 7), none, .mov (.t 2)⟩,
   ⟨(some 8), none, .bin .add (.t 7) (.c (.int .i64 1))⟩,
   ⟨(some 2), none, .mov (.t 8)⟩]
def l_tollbarlaw0_SpoilInts_0 : C := (.seq (.seq (.reg r_tollbarlaw0_SpoilInts_1 [0, 2, 6]) (.cond (.t 6) .skip (.exit 0))) (.seq (.blk 1 (.reg r_tollbarlaw0_SpoilInts_2 [0, 2])) (.reg r_tollbarlaw0_SpoilInts_3 [0, 2])))
def c_tollbarlaw0_SpoilInts : MF := ⟨1, [], (.seq (.reg r_tollbarlaw0_SpoilInts_0 [0, 2]) (.blk 0 (.loop l_tollbarlaw0_SpoilInts_0)))⟩
theorem ok_tollbarlaw0_SpoilInts : okFun Try.prog n_tollbarlaw0_SpoilInts c_tollbarlaw0_SpoilInts = true := by kernel_rfl

/- tollbarlaw0_SpoilPaths -/
def n_tollbarlaw0_SpoilPaths : Nat := 59
def r_tollbarlaw0_SpoilPaths_0 : List O :=
  [⟨(some 2), none, .mov (.c (.int .i64 0))⟩]
def r_tollbarlaw0_SpoilPaths_1 : List O :=
  [⟨(some 3), none, .mov (.t 2)⟩,
   ⟨(some 4), none, .mov (.t 0)⟩,
   ⟨(some 5), none, .len (.t 4)⟩,
   ⟨(some 6), none, .bin .lss (.t 3) (.t 5)⟩]
def r_tollbarlaw0_SpoilPaths_2 : List O :=
  [⟨(some 9), none, .mov (.t 0)⟩,
   ⟨(some 10), none, .mov (.t 2)⟩,
   ⟨(some 11), none, .ia 2 (.t 9) (.t 10)⟩,
   ⟨(some 12), none, .fa 1 (.t 11)⟩,
   ⟨(some 13), none, .load false 1 (.t 12)⟩,
   ⟨(some 14), none, .call n_tollbarlaw0_SpoilInts [(.t 13)]⟩]
def r_tollbarlaw0_SpoilPaths_3 : List O :=
  [⟨(some 15), none, .mov (.t 0)⟩,
   ⟨(some 16), none, .mov (.t 2)⟩,
   ⟨(some 17), none, .ia 2 (.t 15) (.t 16)⟩,
   ⟨(some 18), none, .fa 0 (.t 17)⟩,
   ⟨none, none, .store 1 (.t 18) (.c (.int .i64 (-3)))⟩]
def r_tollbarlaw0_SpoilPaths_4 : List O :=
  [⟨(some 7), none, .mov (.t 2)⟩,
   ⟨(some 8), none, .bin .add (.t 7) (.c (.int .i64 1))⟩,
   ⟨(some 2), none, .mov (.t 8)⟩]
def l_tollbarlaw0_SpoilPaths_0 : C := (.seq (.seq (.reg r_tollbarlaw0_SpoilPaths_1 [0, 2, 6]) (.cond (.t 6) .skip (.exit 0))) (.seq (.blk 1 (.seq (.reg r_tollbarlaw0_SpoilPaths_2 [0, 2]) (.reg r_tollbarlaw0_SpoilPaths_3 [0, 2]))) (.reg r_tollbarlaw0_SpoilPaths_4 [0, 2])))
def c_tollbarlaw0_SpoilPaths : MF := ⟨1, [], (.seq (.reg r_tollbarlaw0_SpoilPaths_0 [0, 2]) (.blk 0 (.loop l_tollbarlaw0_SpoilPaths_0)))⟩
theorem ok_tollbarlaw0_SpoilPaths : okFun Try.prog n_tollbarlaw0_SpoilPaths c_tollbarlaw0_SpoilPaths = true := by kernel_rfl

/- tollbarlaw0_SpoilPieces -/
def n_tollbarlaw0_SpoilPieces : Nat := 39
def r_tollbarlaw0_SpoilPieces_0 : List O :=
  [⟨(some 2), none, .mov (.c (.int .i64 0))⟩]
def r_tollbarlaw0_SpoilPieces_1 : List O :=
  [⟨(some 3), none, .mov (.t 2)⟩,
   ⟨(some 4), none, .mov (.t 0)⟩,
   ⟨(some 5), none, .len (.t 4)⟩,
   ⟨(some 6), none, .bin .lss (.t 3) (.t 5)⟩]
def r_tollbarlaw0_SpoilPieces_2 : List O :=
  [⟨(some 9), none, .mov (.t 0)⟩,
   ⟨(some 10), none, .mov (.t 2)⟩,
   ⟨(some 11), none, .ia 3 (.t 9) (.t 10)⟩,
   ⟨(some 12), none, .fa 2 (.t 11)⟩,
   ⟨(some 13), none, .load false 1 (.t 12)⟩,
   ⟨(some 14), none, .call n_tollbarlaw0_SpoilPaths [(.t 13)]⟩]
def r_tollbarlaw0_SpoilPieces_3 : List O :=
  [⟨(some 15), none, .mov (.t 0)⟩,
   ⟨(some 16), none, .mov (.t 2)⟩,
   ⟨(some 17), none, .build [(.int .i64 0), (.int .i64 0)] [(0, 1, (.c (.int .i64 (-3)))), (1, 1, (.c (.int .i64 (-5))))]⟩,
   ⟨(some 18), none, .ia 3 (.t 15) (.t 16)⟩,
   ⟨(some 19), none, .fa 0 (.t 18)⟩,
   ⟨none, none, .store 2 (.t 19) (.t 17)⟩]
def r_tollbarlaw0_SpoilPieces_4 : List O :=
  [⟨(some 7), none, .mov (.t 2)⟩,
   ⟨(some 8), none, .bin .add (.t 7) (.c (.int .i64 1))⟩,
   ⟨(some 2), none, .mov (.t 8)⟩]
def l_tollbarlaw0_SpoilPieces_0 : C := (.seq (.seq (.reg r_tollbarlaw0_SpoilPieces_1 [0, 2, 6]) (.cond (.t 6) .skip (.exit 0))) (.seq (.blk 1 (.seq (.reg r_tollbarlaw0_SpoilPieces_2 [0, 2]) (.reg r_tollbarlaw0_SpoilPieces_3 [0, 2]))) (.reg r_tollbarlaw0_SpoilPieces_4 [0, 2])))
def c_tollbarlaw0_SpoilPieces : MF := ⟨1, [], (.seq (.reg r_tollbarlaw0_SpoilPieces_0 [0, 2]) (.blk 0 (.loop l_tollbarlaw0_SpoilPieces_0)))⟩
theorem ok_tollbarlaw0_SpoilPieces : okFun Try.prog n_tollbarlaw0_SpoilPieces c_tollbarlaw0_SpoilPieces = true := by kernel_rfl

/- tollbarlaw0_SpoilReply -/
def n_tollbarlaw0_SpoilReply : Nat := 18
def r_tollbarlaw0_SpoilReply_0 : List O :=
  [⟨(some 1), none, .box 10 (.t 0)⟩]
def r_tollbarlaw0_SpoilReply_1 : List O :=
  [⟨(some 2), none, .fa 2 (.t 1)⟩,
   ⟨(some 3), none, .fa 1 (.t 2)⟩,
   ⟨(some 4), none, .load false 1 (.t 3)⟩,
   ⟨(some 5), none, .call n_tollbarlaw0_SpoilInts [(.t 4)]⟩]
def r_tollbarlaw0_SpoilReply_2 : List O :=
  [⟨(some 6), none, .fa 9 (.t 1)⟩,
   ⟨(some 7), none, .load false 1 (.t 6)⟩,
   ⟨(some 8), none, .call n_tollbarlaw0_SpoilPieces [(.t 7)]⟩]
def c_tollbarlaw0_SpoilReply : MF := ⟨1, [], (.seq (.reg r_tollbarlaw0_SpoilReply_0 [1]) (.seq (.reg r_tollbarlaw0_SpoilReply_1 [1]) (.reg r_tollbarlaw0_SpoilReply_2 [])))⟩
theorem ok_tollbarlaw0_SpoilReply : okFun Try.prog n_tollbarlaw0_SpoilReply c_tollbarlaw0_SpoilReply = true := by kernel_rfl

/- tollbarlaw23_TellReads -/
def n_tollbarlaw23_TellReads : Nat := 4
def r_tollbarlaw23_TellReads_0 : List O :=
  [⟨(some 2), none, .mov (.c (.bool false))⟩]
def r_tollbarlaw23_TellReads_1 : List O :=
  [⟨(some 10), none, .mov (.t 0)⟩,
   ⟨(some 11), none, .call n_tell_Read [(.t 10)]⟩,
   ⟨(some 9), none, .mov (.t 11)⟩,
   ⟨(some 12), none, .ext (.t 9) 0⟩,
   ⟨(some 13), none, .ext (.t 9) 1⟩,
   ⟨(some 3), none, .alloc 29 [(.int .i64 0), (.int .i64 0), (.int .i64 0), (.slice none 0 0), (.int .i64 0), (.int .i64 0), (.int .i64 0), (.int .i64 0), (.int .i64 0), (.slice none 0 0)]⟩,
   ⟨none, none, .store 10 (.t 3) (.t 12)⟩,
   ⟨(some 4), none, .mov (.t 13)⟩]
def r_tollbarlaw23_TellReads_2 : List O :=
  [⟨(some 15), none, .mov (.t 0)⟩,
   ⟨(some 16), none, .call n_tollbarref22_ReadTell [(.t 15)]⟩,
   ⟨(some 14), none, .mov (.t 16)⟩,
   ⟨(some 17), none, .ext (.t 14) 0⟩,
   ⟨(some 18), none, .ext (.t 14) 1⟩,
   ⟨(some 5), none, .alloc 29 [(.int .i64 0), (.int .i64 0), (.int .i64 0), (.slice none 0 0), (.int .i64 0), (.int .i64 0), (.int .i64 0), (.int .i64 0), (.int .i64 0), (.slice none 0 0)]⟩,
   ⟨none, none, .store 10 (.t 5) (.t 17)⟩,
   ⟨(some 6), none, .mov (.t 18)⟩]
def r_tollbarlaw23_TellReads_3 : List O :=
  [⟨(some 19), none, .load true 10 (.t 3)⟩,
   ⟨(some 20), none, .load true 10 (.t 5)⟩,
   ⟨(some 21), none, .call n_tollbarlaw0_SameReply [(.t 19), (.t 20)]⟩,
   ⟨(some 22), none, .un .not (.t 21)⟩,
   ⟨(some 23), none, .mov (.t 22)⟩,
   ⟨(some 24), (some (23, false)), .mov (.t 4)⟩,
   ⟨(some 25), (some (23, false)), .call n_tollbarlaw0_Num [(.t 24)]⟩,
   ⟨(some 26), (some (23, false)), .mov (.t 6)⟩,
   ⟨(some 27), (some (23, false)), .bin .neq (.t 25) (.t 26)⟩,
   ⟨(some 28), none, .pick (.t 23) (.c (.bool true)) (.t 27)⟩]
def r_tollbarlaw23_TellReads_4 : List O :=
  [⟨(some 2), none, .mov (.c (.bool false))⟩]
def r_tollbarlaw23_TellReads_5 : List O :=
  [⟨(some 29), none, .load true 10 (.t 3)⟩,
   ⟨(some 30), none, .call n_tollbarlaw0_SpoilReply [(.t 29)]⟩]
def r_tollbarlaw23_TellReads_6 : List O :=
  [⟨(some 32), none, .mov (.t 0)⟩,
   ⟨(some 33), none, .call n_tell_Read [(.t 32)]⟩,
   ⟨(some 31), none, .mov (.t 33)⟩,
   ⟨(some 34), none, .ext (.t 31) 0⟩,
   ⟨(some 35), none, .ext (.t 31) 1⟩,
   ⟨(some 7), none, .alloc 29 [(.int .i64 0), (.int .i64 0), (.int .i64 0), (.slice none 0 0), (.int .i64 0), (.int .i64 0), (.int .i64 0), (.int .i64 0), (.int .i64 0), (.slice none 0 0)]⟩,
   ⟨none, none, .store 10 (.t 7) (.t 34)⟩,
   ⟨(some 8), none, .mov (.t 35)⟩]
def r_tollbarlaw23_TellReads_7 : List O :=
  [⟨(some 36), none, .call n_tollbarlaw23_awake []⟩,
   ⟨(some 37), none, .mov (.t 36)⟩,
   ⟨(some 38), (some (37, true)), .load true 10 (.t 7)⟩,
   ⟨(some 39), (some (37, true)), .load true 10 (.t 5)⟩,
   ⟨(some 40), (some (37, true)), .call n_tollbarlaw0_SameReply [(.t 38), (.t 39)]⟩,
   ⟨(some 41), none, .pick (.t 37) (.t 40) (.c (.bool false))⟩,
   ⟨(some 42), none, .mov (.t 41)⟩,
   ⟨(some 43), (some (42, true)), .mov (.t 8)⟩,
   ⟨(some 44), (some (42, true)), .call n_tollbarlaw0_Num [(.t 43)]⟩,
   ⟨(some 45), (some (42, true)), .mov (.t 6)⟩,
   ⟨(some 46), (some (42, true)), .bin .eql (.t 44) (.t 45)⟩,
   ⟨(some 47), none, .pick (.t 42) (.t 46) (.c (.bool false))⟩,
   ⟨(some 2), none, .mov (.t 47)⟩]
def c_tollbarlaw23_TellReads : MF := ⟨1, [.t 2], (.seq (.reg r_tollbarlaw23_TellReads_0 [0]) (.seq (.reg r_tollbarlaw23_TellReads_1 [0, 3, 4]) (.seq (.reg r_tollbarlaw23_TellReads_2 [0, 3, 4, 5, 6]) (.seq (.seq (.reg r_tollbarlaw23_TellReads_3 [0, 3, 5, 6, 28]) (.cond (.t 28) (.seq (.reg r_tollbarlaw23_TellReads_4 [2]) .ret) .skip)) (.seq (.reg r_tollbarlaw23_TellReads_5 [0, 5, 6]) (.seq (.reg r_tollbarlaw23_TellReads_6 [5, 6, 7, 8]) (.seq (.reg r_tollbarlaw23_TellReads_7 [2]) .ret)))))))⟩
theorem ok_tollbarlaw23_TellReads : okFun Try.prog n_tollbarlaw23_TellReads c_tollbarlaw23_TellReads = true := by kernel_rfl

/- tollbarlaw23_TellBack -/
def n_tollbarlaw23_TellBack : Nat := 5
def r_tollbarlaw23_TellBack_0 : List O :=
  [⟨(some 1), none, .box 10 (.t 0)⟩,
   ⟨(some 2), none, .mov (.c (.bool false))⟩]
def r_tollbarlaw23_TellBack_1 : List O :=
  [⟨(some 8), none, .load true 10 (.t 1)⟩,
   ⟨(some 9), none, .call n_tell_Write [(.t 8)]⟩,
   ⟨(some 7), none, .mov (.t 9)⟩,
   ⟨(some 10), none, .ext (.t 7) 0⟩,
   ⟨(some 11), none, .ext (.t 7) 1⟩,
   ⟨(some 3), none, .mov (.t 10)⟩,
   ⟨(some 4), none, .mov (.t 11)⟩]
def r_tollbarlaw23_TellBack_2 : List O :=
  [⟨(some 12), none, .mov (.t 4)⟩,
   ⟨(some 13), none, .call n_tollbarlaw0_Num [(.t 12)]⟩,
   ⟨(some 14), none, .bin .neq (.t 13) (.c (.int .i64 0))⟩]
def r_tollbarlaw23_TellBack_3 : List O :=
  [⟨(some 2), none, .mov (.c (.bool true))⟩]
def r_tollbarlaw23_TellBack_4 : List O :=
  [⟨(some 16), none, .mov (.t 3)⟩,
   ⟨(some 17), none, .call n_tell_Read [(.t 16)]⟩,
   ⟨(some 15), none, .mov (.t 17)⟩,
   ⟨(some 18), none, .ext (.t 15) 0⟩,
   ⟨(some 19), none, .ext (.t 15) 1⟩,
   ⟨(some 5), none, .alloc 29 [(.int .i64 0), (.int .i64 0), (.int .i64 0), (.slice none 0 0), (.int .i64 0), (.int .i64 0), (.int .i64 0), (.int .i64 0), (.int .i64 0), (.slice none 0 0)]⟩,
   ⟨none, none, .store 10 (.t 5) (.t 18)⟩,
   ⟨(some 6), none, .mov (.t 19)⟩]
def r_tollbarlaw23_TellBack_5 : List O :=
  [⟨(some 20), none, .call n_tollbarlaw23_awake []⟩,
   ⟨(some 21), none, .mov (.t 20)⟩,
   ⟨(some 22), (some (21, true)), .load true 10 (.t 5)⟩,
   ⟨(some 23), (some (21, true)), .load true 10 (.t 1)⟩,
   ⟨(some 24), (some (21, true)), .call n_tollbarlaw0_SameReply [(.t 22), (.t 23)]⟩,
   ⟨(some 25), none, .pick (.t 21) (.t 24) (.c (.bool false))⟩,
   ⟨(some 26), none, .mov (.t 25)⟩,
   ⟨(some 27), (some (26, true)), .mov (.t 6)⟩,
   ⟨(some 28), (some (26, true)), .call n_tollbarlaw0_Num [(.t 27)]⟩,
   ⟨(some 29), (some (26, true)), .bin .eql (.t 28) (.c (.int .i64 0))⟩,
   ⟨(some 30), none, .pick (.t 26) (.t 29) (.c (.bool false))⟩,
   ⟨(some 31), none, .mov (.t 30)⟩,
   ⟨(some 32), (some (31, true)), .mov (.t 3)⟩,
   ⟨(some 33), (some (31, true)), .lens (.t 32)⟩,
   ⟨(some 34), (some (31, true)), .bin .leq (.t 33) (.c (.int .i64 8192))⟩,
   ⟨(some 35), none, .pick (.t 31) (.t 34) (.c (.bool false))⟩,
   ⟨(some 36), none, .mov (.t 35)⟩,
   ⟨(some 37), (some (36, true)), .mov (.t 3)⟩,
   ⟨(some 38), (some (36, true)), .lens (.t 37)⟩,
   ⟨(some 39), (some (36, true)), .bin .gtr (.t 38) (.c (.int .i64 0))⟩,
   ⟨(some 40), none, .pick (.t 36) (.t 39) (.c (.bool false))⟩,
   ⟨(some 2), none, .mov (.t 40)⟩]
def c_tollbarlaw23_TellBack : MF := ⟨1, [.t 2], (.seq (.reg r_tollbarlaw23_TellBack_0 [1]) (.seq (.reg r_tollbarlaw23_TellBack_1 [1, 3, 4]) (.seq (.seq (.reg r_tollbarlaw23_TellBack_2 [1, 3, 14]) (.cond (.t 14) (.seq (.reg r_tollbarlaw23_TellBack_3 [2]) .ret) .skip)) (.seq (.reg r_tollbarlaw23_TellBack_4 [1, 3, 5, 6]) (.seq (.reg r_tollbarlaw23_TellBack_5 [2]) .ret)))))⟩
theorem ok_tollbarlaw23_TellBack : okFun Try.prog n_tollbarlaw23_TellBack c_tollbarlaw23_TellBack = true := by kernel_rfl

/- tollbarlaw23_TellForms -/
def n_tollbarlaw23_TellForms : Nat := 6
def r_tollbarlaw23_TellForms_0 : List O :=
  [⟨(some 2), none, .mov (.c (.bool false))⟩]
def r_tollbarlaw23_TellForms_1 : List O :=
  [⟨(some 10), none, .mov (.t 0)⟩,
   ⟨(some 11), none, .call n_tell_Read [(.t 10)]⟩,
   ⟨(some 9), none, .mov (.t 11)⟩,
   ⟨(some 12), none, .ext (.t 9) 0⟩,
   ⟨(some 13), none, .ext (.t 9) 1⟩,
   ⟨(some 3), none, .alloc 29 [(.int .i64 0), (.int .i64 0), (.int .i64 0), (.slice none 0 0), (.int .i64 0), (.int .i64 0), (.int .i64 0), (.int .i64 0), (.int .i64 0), (.slice none 0 0)]⟩,
   ⟨none, none, .store 10 (.t 3) (.t 12)⟩,
   ⟨(some 4), none, .mov (.t 13)⟩]
def r_tollbarlaw23_TellForms_2 : List O :=
  [⟨(some 14), none, .mov (.t 4)⟩,
   ⟨(some 15), none, .call n_tollbarlaw0_Num [(.t 14)]⟩,
   ⟨(some 16), none, .bin .neq (.t 15) (.c (.int .i64 0))⟩]
def r_tollbarlaw23_TellForms_3 : List O :=
  [⟨(some 2), none, .mov (.c (.bool true))⟩]
def r_tollbarlaw23_TellForms_4 : List O :=
  [⟨(some 18), none, .load true 10 (.t 3)⟩,
   ⟨(some 19), none, .call n_tell_Write [(.t 18)]⟩,
   ⟨(some 17), none, .mov (.t 19)⟩,
   ⟨(some 20), none, .ext (.t 17) 0⟩,
   ⟨(some 21), none, .ext (.t 17) 1⟩,
   ⟨(some 5), none, .mov (.t 20)⟩,
   ⟨(some 6), none, .mov (.t 21)⟩]
def r_tollbarlaw23_TellForms_5 : List O :=
  [⟨(some 22), none, .mov (.t 6)⟩,
   ⟨(some 23), none, .call n_tollbarlaw0_Num [(.t 22)]⟩,
   ⟨(some 24), none, .bin .neq (.t 23) (.c (.int .i64 0))⟩,
   ⟨(some 25), none, .mov (.t 24)⟩,
   ⟨(some 26), (some (25, false)), .mov (.t 5)⟩,
   ⟨(some 27), (some (25, false)), .mov (.t 0)⟩,
   ⟨(some 28), (some (25, false)), .bin .neq (.t 26) (.t 27)⟩,
   ⟨(some 29), none, .pick (.t 25) (.c (.bool true)) (.t 28)⟩,
   ⟨(some 30), none, .mov (.t 29)⟩,
   ⟨(some 31), (some (30, false)), .mov (.t 0)⟩,
   ⟨(some 32), (some (30, false)), .lens (.t 31)⟩,
   ⟨(some 33), (some (30, false)), .bin .eql (.t 32) (.c (.int .i64 0))⟩,
   ⟨(some 34), none, .pick (.t 30) (.c (.bool true)) (.t 33)⟩]
def r_tollbarlaw23_TellForms_6 : List O :=
  [⟨(some 2), none, .mov (.c (.bool false))⟩]
def r_tollbarlaw23_TellForms_7 : List O :=
  [⟨(some 36), none, .mov (.t 0)⟩,
   ⟨(some 37), none, .mov (.t 0)⟩,
   ⟨(some 38), none, .lens (.t 37)⟩,
   ⟨(some 39), none, .bin .sub (.t 38) (.c (.int .i64 1))⟩,
   ⟨(some 40), none, .sls (.t 36) none (some (.t 39))⟩,
   ⟨(some 41), none, .call n_tell_Read [(.t 40)]⟩,
   ⟨(some 35), none, .mov (.t 41)⟩,
   ⟨(some 42), none, .ext (.t 35) 0⟩,
   ⟨(some 43), none, .ext (.t 35) 1⟩,
   ⟨(some 7), none, .alloc 29 [(.int .i64 0), (.int .i64 0), (.int .i64 0), (.slice none 0 0), (.int .i64 0), (.int .i64 0), (.int .i64 0), (.int .i64 0), (.int .i64 0), (.slice none 0 0)]⟩,
   ⟨none, none, .store 10 (.t 7) (.t 42)⟩,
   ⟨(some 8), none, .mov (.t 43)⟩]
def r_tollbarlaw23_TellForms_8 : List O :=
  [⟨(some 44), none, .call n_tollbarlaw23_awake []⟩,
   ⟨(some 45), none, .mov (.t 44)⟩,
   ⟨(some 46), (some (45, true)), .load true 10 (.t 3)⟩,
   ⟨(some 47), (some (45, true)), .call n_tell_May [(.t 46)]⟩,
   ⟨(some 48), none, .pick (.t 45) (.t 47) (.c (.bool false))⟩,
   ⟨(some 49), none, .mov (.t 48)⟩,
   ⟨(some 50), (some (49, true)), .mov (.t 8)⟩,
   ⟨(some 51), (some (49, true)), .call n_tollbarlaw0_Num [(.t 50)]⟩,
   ⟨(some 52), (some (49, true)), .bin .eql (.t 51) (.c (.int .i64 2300))⟩,
   ⟨(some 53), none, .pick (.t 49) (.t 52) (.c (.bool false))⟩,
   ⟨(some 2), none, .mov (.t 53)⟩]
def c_tollbarlaw23_TellForms : MF := ⟨1, [.t 2], (.seq (.reg r_tollbarlaw23_TellForms_0 [0]) (.seq (.reg r_tollbarlaw23_TellForms_1 [0, 3, 4]) (.seq (.seq (.reg r_tollbarlaw23_TellForms_2 [0, 3, 16]) (.cond (.t 16) (.seq (.reg r_tollbarlaw23_TellForms_3 [2]) .ret) .skip)) (.seq (.reg r_tollbarlaw23_TellForms_4 [0, 3, 5, 6]) (.seq (.seq (.reg r_tollbarlaw23_TellForms_5 [0, 3, 34]) (.cond (.t 34) (.seq (.reg r_tollbarlaw23_TellForms_6 [2]) .ret) .skip)) (.seq (.reg r_tollbarlaw23_TellForms_7 [3, 8]) (.seq (.reg r_tollbarlaw23_TellForms_8 [2]) .ret)))))))⟩
theorem ok_tollbarlaw23_TellForms : okFun Try.prog n_tollbarlaw23_TellForms c_tollbarlaw23_TellForms = true := by kernel_rfl

/- tollbarlaw23_TellApart -/
def n_tollbarlaw23_TellApart : Nat := 7
def r_tollbarlaw23_TellApart_0 : List O :=
  [⟨(some 2), none, .box 10 (.t 0)⟩,
   ⟨(some 3), none, .box 10 (.t 1)⟩,
   ⟨(some 4), none, .mov (.c (.bool false))⟩]
def r_tollbarlaw23_TellApart_1 : List O :=
  [⟨(some 10), none, .load true 10 (.t 2)⟩,
   ⟨(some 11), none, .call n_tell_Write [(.t 10)]⟩,
   ⟨(some 9), none, .mov (.t 11)⟩,
   ⟨(some 12), none, .ext (.t 9) 0⟩,
   ⟨(some 13), none, .ext (.t 9) 1⟩,
   ⟨(some 5), none, .mov (.t 12)⟩,
   ⟨(some 6), none, .mov (.t 13)⟩]
def r_tollbarlaw23_TellApart_2 : List O :=
  [⟨(some 15), none, .load true 10 (.t 3)⟩,
   ⟨(some 16), none, .call n_tell_Write [(.t 15)]⟩,
   ⟨(some 14), none, .mov (.t 16)⟩,
   ⟨(some 17), none, .ext (.t 14) 0⟩,
   ⟨(some 18), none, .ext (.t 14) 1⟩,
   ⟨(some 7), none, .mov (.t 17)⟩,
   ⟨(some 8), none, .mov (.t 18)⟩]
def r_tollbarlaw23_TellApart_3 : List O :=
  [⟨(some 19), none, .mov (.t 6)⟩,
   ⟨(some 20), none, .call n_tollbarlaw0_Num [(.t 19)]⟩,
   ⟨(some 21), none, .bin .neq (.t 20) (.c (.int .i64 0))⟩,
   ⟨(some 22), none, .mov (.t 21)⟩,
   ⟨(some 23), (some (22, false)), .mov (.t 8)⟩,
   ⟨(some 24), (some (22, false)), .call n_tollbarlaw0_Num [(.t 23)]⟩,
   ⟨(some 25), (some (22, false)), .bin .neq (.t 24) (.c (.int .i64 0))⟩,
   ⟨(some 26), none, .pick (.t 22) (.c (.bool true)) (.t 25)⟩]
def r_tollbarlaw23_TellApart_4 : List O :=
  [⟨(some 4), none, .mov (.c (.bool true))⟩]
def r_tollbarlaw23_TellApart_5 : List O :=
  [⟨(some 27), none, .call n_tollbarlaw23_awake []⟩,
   ⟨(some 28), none, .mov (.t 27)⟩,
   ⟨(some 29), (some (28, true)), .mov (.t 5)⟩,
   ⟨(some 30), (some (28, true)), .mov (.t 7)⟩,
   ⟨(some 31), (some (28, true)), .bin .eql (.t 29) (.t 30)⟩,
   ⟨(some 32), (some (28, true)), .load true 10 (.t 2)⟩,
   ⟨(some 33), (some (28, true)), .load true 10 (.t 3)⟩,
   ⟨(some 34), (some (28, true)), .call n_tollbarlaw0_SameReply [(.t 32), (.t 33)]⟩,
   ⟨(some 35), (some (28, true)), .eqb false (.t 31) (.t 34)⟩,
   ⟨(some 36), none, .pick (.t 28) (.t 35) (.c (.bool false))⟩,
   ⟨(some 4), none, .mov (.t 36)⟩]
def c_tollbarlaw23_TellApart : MF := ⟨2, [.t 4], (.seq (.reg r_tollbarlaw23_TellApart_0 [2, 3]) (.seq (.reg r_tollbarlaw23_TellApart_1 [2, 3, 5, 6]) (.seq (.reg r_tollbarlaw23_TellApart_2 [2, 3, 5, 6, 7, 8]) (.seq (.seq (.reg r_tollbarlaw23_TellApart_3 [2, 3, 5, 7, 26]) (.cond (.t 26) (.seq (.reg r_tollbarlaw23_TellApart_4 [4]) .ret) .skip)) (.seq (.reg r_tollbarlaw23_TellApart_5 [4]) .ret)))))⟩
theorem ok_tollbarlaw23_TellApart : okFun Try.prog n_tollbarlaw23_TellApart c_tollbarlaw23_TellApart = true := by kernel_rfl

def codes0 : List (Nat × Fun) :=
  [(n_tollbarlaw0_CopyInts, .code c_tollbarlaw0_CopyInts),
   (n_tollbarlaw0_CopyPaths, .code c_tollbarlaw0_CopyPaths),
   (n_tollbarlaw0_CopyPieces, .code c_tollbarlaw0_CopyPieces),
   (n_tollbarlaw0_CopyReply, .code c_tollbarlaw0_CopyReply),
   (n_tell_plain, .code c_tell_plain),
   (n_tell_isPlain, .code c_tell_isPlain),
   (n_rate_Is, .code c_rate_Is),
   (n_span_May, .code c_span_May),
   (n_tell_pathMay, .code c_tell_pathMay),
   (n_tell_piecesMay, .code c_tell_piecesMay),
   (n_tell_vertsMay, .code c_tell_vertsMay),
   (n_tell_May, .code c_tell_May),
   (n_tell_counted, .code c_tell_counted),
   (n_tell_grant, .code c_tell_grant),
   (n_math_bits_Len64, .code c_math_bits_Len64),
   (n_word_size, .code c_word_size),
   (n_strings_Builder_copyCheck, .code c_strings_Builder_copyCheck),
   (n_strings_Builder_WriteByte, .code c_strings_Builder_WriteByte),
   (n_strings_Builder_String, .code c_strings_Builder_String),
   (n_word_Put, .code c_word_Put),
   (n_tell_Write, .code c_tell_Write),
   (n_tollbarref1_SpanMay, .code c_tollbarref1_SpanMay),
   (n_tollbarref19_Chained, .code c_tollbarref19_Chained),
   (n_tollbarref22_pathsMay, .code c_tollbarref22_pathsMay),
   (n_tollbarref22_grantMay, .code c_tollbarref22_grantMay),
   (n_tollbarref22_cutMay, .code c_tollbarref22_cutMay),
   (n_tollbarref1_Rate, .code c_tollbarref1_Rate),
   (n_tollbarref19_SameInts, .code c_tollbarref19_SameInts),
   (n_tollbarref19_SamePaths, .code c_tollbarref19_SamePaths),
   (n_tollbarref19_SamePieces, .code c_tollbarref19_SamePieces),
   (n_tollbarref19_SameReply, .code c_tollbarref19_SameReply),
   (n_tollbarref22_ReplyMay, .code c_tollbarref22_ReplyMay),
   (n_tollbarref1_Put, .code c_tollbarref1_Put),
   (n_tollbarref22_WriteTell, .code c_tollbarref22_WriteTell),
   (n_word_Get, .code c_word_Get),
   (n_word_List, .code c_word_List),
   (n_tell_numbers_next, .code c_tell_numbers_next),
   (n_tell_numbers_span, .code c_tell_numbers_span),
   (n_tell_numbers_count, .code c_tell_numbers_count),
   (n_tell_numbers_list, .code c_tell_numbers_list),
   (n_tell_numbers_piece, .code c_tell_numbers_piece),
   (n_tell_numbers_reply, .code c_tell_numbers_reply),
   (n_tell_Read, .code c_tell_Read),
   (n_tollbarlaw0_Num, .code c_tollbarlaw0_Num),
   (n_tollbarlaw0_SameReply, .code c_tollbarlaw0_SameReply),
   (n_tollbarlaw23_awake, .code c_tollbarlaw23_awake),
   (n_tollbarlaw23_Tells, .code c_tollbarlaw23_Tells),
   (n_tollbarref1_Get, .code c_tollbarref1_Get),
   (n_tollbarref1_List, .code c_tollbarref1_List),
   (n_tollbarref22_front, .code c_tollbarref22_front),
   (n_tollbarref22_readPaths, .code c_tollbarref22_readPaths),
   (n_tollbarref22_readGrant, .code c_tollbarref22_readGrant),
   (n_tollbarref22_ReadTell, .code c_tollbarref22_ReadTell),
   (n_tollbarlaw0_SpoilInts, .code c_tollbarlaw0_SpoilInts),
   (n_tollbarlaw0_SpoilPaths, .code c_tollbarlaw0_SpoilPaths),
   (n_tollbarlaw0_SpoilPieces, .code c_tollbarlaw0_SpoilPieces),
   (n_tollbarlaw0_SpoilReply, .code c_tollbarlaw0_SpoilReply),
   (n_tollbarlaw23_TellReads, .code c_tollbarlaw23_TellReads),
   (n_tollbarlaw23_TellBack, .code c_tollbarlaw23_TellBack),
   (n_tollbarlaw23_TellForms, .code c_tollbarlaw23_TellForms),
   (n_tollbarlaw23_TellApart, .code c_tollbarlaw23_TellApart)]
theorem codes0_held : AllF Try.prog codes0 := ⟨ok_tollbarlaw0_CopyInts, ok_tollbarlaw0_CopyPaths, ok_tollbarlaw0_CopyPieces, ok_tollbarlaw0_CopyReply, ok_tell_plain, ok_tell_isPlain, ok_rate_Is, ok_span_May, ok_tell_pathMay, ok_tell_piecesMay, ok_tell_vertsMay, ok_tell_May, ok_tell_counted, ok_tell_grant, ok_math_bits_Len64, ok_word_size, ok_strings_Builder_copyCheck, ok_strings_Builder_WriteByte, ok_strings_Builder_String, ok_word_Put, ok_tell_Write, ok_tollbarref1_SpanMay, ok_tollbarref19_Chained, ok_tollbarref22_pathsMay, ok_tollbarref22_grantMay, ok_tollbarref22_cutMay, ok_tollbarref1_Rate, ok_tollbarref19_SameInts, ok_tollbarref19_SamePaths, ok_tollbarref19_SamePieces, ok_tollbarref19_SameReply, ok_tollbarref22_ReplyMay, ok_tollbarref1_Put, ok_tollbarref22_WriteTell, ok_word_Get, ok_word_List, ok_tell_numbers_next, ok_tell_numbers_span, ok_tell_numbers_count, ok_tell_numbers_list, ok_tell_numbers_piece, ok_tell_numbers_reply, ok_tell_Read, ok_tollbarlaw0_Num, ok_tollbarlaw0_SameReply, ok_tollbarlaw23_awake, ok_tollbarlaw23_Tells, ok_tollbarref1_Get, ok_tollbarref1_List, ok_tollbarref22_front, ok_tollbarref22_readPaths, ok_tollbarref22_readGrant, ok_tollbarref22_ReadTell, ok_tollbarlaw0_SpoilInts, ok_tollbarlaw0_SpoilPaths, ok_tollbarlaw0_SpoilPieces, ok_tollbarlaw0_SpoilReply, ok_tollbarlaw23_TellReads, ok_tollbarlaw23_TellBack, ok_tollbarlaw23_TellForms, ok_tollbarlaw23_TellApart, trivial⟩
def F0 : Nat → Option Fun := lookF codes0
theorem held0 : Funs Try.prog F0 := Funs.of_list (by kernel_rfl) codes0_held
theorem run_tollbarlaw23_awake : isTrue (callN F0 3000 n_tollbarlaw23_awake [] Heap.none) = true := by kernel_rfl
theorem known_tollbarlaw23_awake : KnownS Try.prog n_tollbarlaw23_awake (closedF (.bool true)) := by
  obtain ⟨H1, h⟩ := isTrue_spec run_tollbarlaw23_awake
  exact KnownS.closed held0 rfl h
def codes : List (Nat × Fun) :=
  [(n_tollbarlaw0_CopyInts, .code c_tollbarlaw0_CopyInts),
   (n_tollbarlaw0_CopyPaths, .code c_tollbarlaw0_CopyPaths),
   (n_tollbarlaw0_CopyPieces, .code c_tollbarlaw0_CopyPieces),
   (n_tollbarlaw0_CopyReply, .code c_tollbarlaw0_CopyReply),
   (n_tell_plain, .code c_tell_plain),
   (n_tell_isPlain, .code c_tell_isPlain),
   (n_rate_Is, .code c_rate_Is),
   (n_span_May, .code c_span_May),
   (n_tell_pathMay, .code c_tell_pathMay),
   (n_tell_piecesMay, .code c_tell_piecesMay),
   (n_tell_vertsMay, .code c_tell_vertsMay),
   (n_tell_May, .code c_tell_May),
   (n_tell_counted, .code c_tell_counted),
   (n_tell_grant, .code c_tell_grant),
   (n_math_bits_Len64, .code c_math_bits_Len64),
   (n_word_size, .code c_word_size),
   (n_strings_Builder_copyCheck, .code c_strings_Builder_copyCheck),
   (n_strings_Builder_WriteByte, .code c_strings_Builder_WriteByte),
   (n_strings_Builder_String, .code c_strings_Builder_String),
   (n_word_Put, .code c_word_Put),
   (n_tell_Write, .code c_tell_Write),
   (n_tollbarref1_SpanMay, .code c_tollbarref1_SpanMay),
   (n_tollbarref19_Chained, .code c_tollbarref19_Chained),
   (n_tollbarref22_pathsMay, .code c_tollbarref22_pathsMay),
   (n_tollbarref22_grantMay, .code c_tollbarref22_grantMay),
   (n_tollbarref22_cutMay, .code c_tollbarref22_cutMay),
   (n_tollbarref1_Rate, .code c_tollbarref1_Rate),
   (n_tollbarref19_SameInts, .code c_tollbarref19_SameInts),
   (n_tollbarref19_SamePaths, .code c_tollbarref19_SamePaths),
   (n_tollbarref19_SamePieces, .code c_tollbarref19_SamePieces),
   (n_tollbarref19_SameReply, .code c_tollbarref19_SameReply),
   (n_tollbarref22_ReplyMay, .code c_tollbarref22_ReplyMay),
   (n_tollbarref1_Put, .code c_tollbarref1_Put),
   (n_tollbarref22_WriteTell, .code c_tollbarref22_WriteTell),
   (n_word_Get, .code c_word_Get),
   (n_word_List, .code c_word_List),
   (n_tell_numbers_next, .code c_tell_numbers_next),
   (n_tell_numbers_span, .code c_tell_numbers_span),
   (n_tell_numbers_count, .code c_tell_numbers_count),
   (n_tell_numbers_list, .code c_tell_numbers_list),
   (n_tell_numbers_piece, .code c_tell_numbers_piece),
   (n_tell_numbers_reply, .code c_tell_numbers_reply),
   (n_tell_Read, .code c_tell_Read),
   (n_tollbarlaw0_Num, .code c_tollbarlaw0_Num),
   (n_tollbarlaw0_SameReply, .code c_tollbarlaw0_SameReply),
   (n_tollbarlaw23_awake, .known (closedF (.bool true))),
   (n_tollbarlaw23_Tells, .code c_tollbarlaw23_Tells),
   (n_tollbarref1_Get, .code c_tollbarref1_Get),
   (n_tollbarref1_List, .code c_tollbarref1_List),
   (n_tollbarref22_front, .code c_tollbarref22_front),
   (n_tollbarref22_readPaths, .code c_tollbarref22_readPaths),
   (n_tollbarref22_readGrant, .code c_tollbarref22_readGrant),
   (n_tollbarref22_ReadTell, .code c_tollbarref22_ReadTell),
   (n_tollbarlaw0_SpoilInts, .code c_tollbarlaw0_SpoilInts),
   (n_tollbarlaw0_SpoilPaths, .code c_tollbarlaw0_SpoilPaths),
   (n_tollbarlaw0_SpoilPieces, .code c_tollbarlaw0_SpoilPieces),
   (n_tollbarlaw0_SpoilReply, .code c_tollbarlaw0_SpoilReply),
   (n_tollbarlaw23_TellReads, .code c_tollbarlaw23_TellReads),
   (n_tollbarlaw23_TellBack, .code c_tollbarlaw23_TellBack),
   (n_tollbarlaw23_TellForms, .code c_tollbarlaw23_TellForms),
   (n_tollbarlaw23_TellApart, .code c_tollbarlaw23_TellApart)]
theorem codes_held : AllF Try.prog codes := ⟨ok_tollbarlaw0_CopyInts, ok_tollbarlaw0_CopyPaths, ok_tollbarlaw0_CopyPieces, ok_tollbarlaw0_CopyReply, ok_tell_plain, ok_tell_isPlain, ok_rate_Is, ok_span_May, ok_tell_pathMay, ok_tell_piecesMay, ok_tell_vertsMay, ok_tell_May, ok_tell_counted, ok_tell_grant, ok_math_bits_Len64, ok_word_size, ok_strings_Builder_copyCheck, ok_strings_Builder_WriteByte, ok_strings_Builder_String, ok_word_Put, ok_tell_Write, ok_tollbarref1_SpanMay, ok_tollbarref19_Chained, ok_tollbarref22_pathsMay, ok_tollbarref22_grantMay, ok_tollbarref22_cutMay, ok_tollbarref1_Rate, ok_tollbarref19_SameInts, ok_tollbarref19_SamePaths, ok_tollbarref19_SamePieces, ok_tollbarref19_SameReply, ok_tollbarref22_ReplyMay, ok_tollbarref1_Put, ok_tollbarref22_WriteTell, ok_word_Get, ok_word_List, ok_tell_numbers_next, ok_tell_numbers_span, ok_tell_numbers_count, ok_tell_numbers_list, ok_tell_numbers_piece, ok_tell_numbers_reply, ok_tell_Read, ok_tollbarlaw0_Num, ok_tollbarlaw0_SameReply, known_tollbarlaw23_awake, ok_tollbarlaw23_Tells, ok_tollbarref1_Get, ok_tollbarref1_List, ok_tollbarref22_front, ok_tollbarref22_readPaths, ok_tollbarref22_readGrant, ok_tollbarref22_ReadTell, ok_tollbarlaw0_SpoilInts, ok_tollbarlaw0_SpoilPaths, ok_tollbarlaw0_SpoilPieces, ok_tollbarlaw0_SpoilReply, ok_tollbarlaw23_TellReads, ok_tollbarlaw23_TellBack, ok_tollbarlaw23_TellForms, ok_tollbarlaw23_TellApart, trivial⟩
def F : Nat → Option Fun := lookF codes
theorem held : Funs Try.prog F := Funs.of_list (by kernel_rfl) codes_held
end Go.Proofs.Ytnjmdkecpadehaa
