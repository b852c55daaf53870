/- Part 5 of the texts on which the proof in this folder rests: each says what it proves at its own head. No condition. -/
import Derived.Test.YthkkhmkieknemaaM4
import Derived.KernelRfl
set_option linter.unusedVariables false
set_option linter.unusedSimpArgs false
/- The resolved functions of this seat, as printed (wip/abs/Print.lean), and the table of them. No condition. -/
namespace Go.Proofs.Ythkkhmkieknemaa
open Go.Abs

def f3o0 : List IOper := [
  ⟨(some 4), .box 24 (.t 0), none⟩,
  ⟨(some 5), .box 27 (.t 1), none⟩,
  ⟨(some 8), .mov (.c (.bool false)), none⟩]
def f3o1 : List IOper := [
  ⟨(some 17), .load 1 true (.t 4), none⟩,
  ⟨(some 18), .callp 0 9 [(.t 17)], none⟩,
  ⟨(some 19), .un .not (.t 18), none⟩]
def f3o2 : List IOper := [
  ⟨(some 20), .callp 0 10 [], none⟩,
  ⟨(some 8), .mov (.t 20), none⟩]
def f3o3 : List IOper := [
  ⟨(some 21), .load 1 true (.t 4), none⟩,
  ⟨(some 22), .load 2 true (.t 5), none⟩,
  ⟨(some 23), .callp 0 11 [(.t 21), (.t 22)], none⟩,
  ⟨(some 24), .load 1 true (.t 4), none⟩,
  ⟨(some 25), .load 2 true (.t 5), none⟩,
  ⟨(some 26), .callp 0 12 [(.t 24), (.t 25)], none⟩,
  ⟨(some 27), .bin .neq (.t 23) (.t 26), none⟩]
def f3o4 : List IOper := [
  ⟨(some 8), .mov (.c (.bool false)), none⟩]
def f3o5 : List IOper := [
  ⟨(some 28), .load 1 true (.t 4), none⟩,
  ⟨(some 29), .load 2 true (.t 5), none⟩,
  ⟨(some 30), .callp 0 13 [(.t 28), (.t 29)], none⟩,
  ⟨(some 31), .un .not (.t 30), none⟩]
def f3o6 : List IOper := [
  ⟨(some 32), .callp 0 10 [], none⟩,
  ⟨(some 8), .mov (.t 32), none⟩]
def f3o7 : List IOper := [
  ⟨(some 33), .mov (.t 2), none⟩,
  ⟨(some 34), .conv .i64 (.t 33), none⟩,
  ⟨(some 35), .fadd 1 (.t 5), none⟩,
  ⟨(some 36), .load 1 false (.t 35), none⟩,
  ⟨(some 37), .conv .i64 (.t 36), none⟩,
  ⟨(some 38), .bin .rem (.t 34) (.t 37), none⟩,
  ⟨(some 9), .mov (.t 38), none⟩]
def f3o8 : List IOper := [
  ⟨(some 40), .load 1 true (.t 4), none⟩,
  ⟨(some 41), .load 2 true (.t 5), none⟩,
  ⟨(some 42), .mov (.t 9), none⟩,
  ⟨(some 43), .callp 0 14 [(.t 40), (.t 41), (.t 42)], none⟩,
  ⟨(some 39), .mov (.t 43), none⟩,
  ⟨(some 44), .ext (.t 39) 0, none⟩,
  ⟨(some 45), .ext (.t 39) 1, none⟩,
  ⟨(some 10), .mov (.t 44), none⟩,
  ⟨(some 11), .mov (.t 45), none⟩]
def f3o9 : List IOper := [
  ⟨(some 47), .load 1 true (.t 4), none⟩,
  ⟨(some 48), .load 2 true (.t 5), none⟩,
  ⟨(some 49), .mov (.t 9), none⟩,
  ⟨(some 50), .callp 0 15 [(.t 47), (.t 48), (.t 49)], none⟩,
  ⟨(some 46), .mov (.t 50), none⟩,
  ⟨(some 51), .ext (.t 46) 0, none⟩,
  ⟨(some 52), .ext (.t 46) 1, none⟩,
  ⟨(some 53), .ext (.t 46) 2, none⟩,
  ⟨(some 12), .new 24 [(.sl 0 0 [])], none⟩,
  ⟨none, .store 1 (.t 12) (.t 51), none⟩,
  ⟨(some 13), .mov (.t 52), none⟩,
  ⟨(some 14), .mov (.t 53), none⟩]
def f3o10 : List IOper := [
  ⟨(some 54), .load 1 true (.t 4), none⟩,
  ⟨(some 55), .load 2 true (.t 5), none⟩,
  ⟨(some 56), .mov (.t 9), none⟩,
  ⟨(some 57), .callp 0 16 [(.t 54), (.t 55), (.t 56)], none⟩,
  ⟨(some 58), .load 1 true (.t 4), none⟩,
  ⟨(some 59), .load 2 true (.t 5), none⟩,
  ⟨(some 60), .mov (.t 9), none⟩,
  ⟨(some 61), .callp 0 17 [(.t 58), (.t 59), (.t 60)], none⟩,
  ⟨(some 15), .new 39 [(.int .i64 0), (.bool false)], none⟩,
  ⟨(some 16), .new 42 [(.sl 0 0 []), (.sl 0 0 []), (.int .i64 0)], none⟩,
  ⟨none, .store 2 (.t 15) (.t 57), none⟩,
  ⟨none, .store 3 (.t 16) (.t 61), none⟩]
def f3o11 : List IOper := [
  ⟨(some 62), .mov (.t 10), none⟩,
  ⟨(some 63), .fadd 0 (.t 15), none⟩,
  ⟨(some 64), .load 1 false (.t 63), none⟩,
  ⟨(some 65), .bin .neq (.t 62) (.t 64), none⟩,
  ⟨(some 66), .mov (.t 65), none⟩,
  ⟨(some 67), .mov (.t 11), (some (66, false))⟩,
  ⟨(some 68), .fadd 1 (.t 15), (some (66, false))⟩,
  ⟨(some 69), .load 1 false (.t 68), (some (66, false))⟩,
  ⟨(some 70), .eq true 1 (.t 67) (.t 69), (some (66, false))⟩,
  ⟨(some 71), .pick (.t 66) (.c (.bool true)) (.t 70), none⟩,
  ⟨(some 72), .mov (.t 71), none⟩,
  ⟨(some 73), .mov (.t 14), (some (72, false))⟩,
  ⟨(some 74), .fadd 2 (.t 16), (some (72, false))⟩,
  ⟨(some 75), .load 1 false (.t 74), (some (72, false))⟩,
  ⟨(some 76), .bin .neq (.t 73) (.t 75), (some (72, false))⟩,
  ⟨(some 77), .pick (.t 72) (.c (.bool true)) (.t 76), none⟩,
  ⟨(some 78), .mov (.t 77), none⟩,
  ⟨(some 79), .mov (.t 13), (some (78, false))⟩,
  ⟨(some 80), .fadd 1 (.t 16), (some (78, false))⟩,
  ⟨(some 81), .load 1 false (.t 80), (some (78, false))⟩,
  ⟨(some 82), .callp 0 18 [(.t 79), (.t 81)], (some (78, false))⟩,
  ⟨(some 83), .un .not (.t 82), (some (78, false))⟩,
  ⟨(some 84), .pick (.t 78) (.c (.bool true)) (.t 83), none⟩,
  ⟨(some 85), .mov (.t 84), none⟩,
  ⟨(some 86), .load 1 true (.t 12), (some (85, false))⟩,
  ⟨(some 87), .fadd 0 (.t 16), (some (85, false))⟩,
  ⟨(some 88), .load 1 true (.t 87), (some (85, false))⟩,
  ⟨(some 89), .callp 0 19 [(.t 86), (.t 88)], (some (85, false))⟩,
  ⟨(some 90), .un .not (.t 89), (some (85, false))⟩,
  ⟨(some 91), .pick (.t 85) (.c (.bool true)) (.t 90), none⟩]
def f3o12 : List IOper := [
  ⟨(some 8), .mov (.c (.bool false)), none⟩]
def f3o13 : List IOper := [
  ⟨(some 92), .callp 0 10 [], none⟩,
  ⟨(some 93), .mov (.t 92), none⟩,
  ⟨(some 94), .load 1 true (.t 12), (some (93, true))⟩,
  ⟨(some 95), .load 2 true (.t 5), (some (93, true))⟩,
  ⟨(some 96), .mov (.t 13), (some (93, true))⟩,
  ⟨(some 97), .callp 0 20 [(.t 94), (.t 95), (.t 96)], (some (93, true))⟩,
  ⟨(some 98), .fadd 0 (.t 16), (some (93, true))⟩,
  ⟨(some 99), .load 1 true (.t 98), (some (93, true))⟩,
  ⟨(some 100), .load 2 true (.t 5), (some (93, true))⟩,
  ⟨(some 101), .fadd 1 (.t 16), (some (93, true))⟩,
  ⟨(some 102), .load 1 false (.t 101), (some (93, true))⟩,
  ⟨(some 103), .callp 0 21 [(.t 99), (.t 100), (.t 102)], (some (93, true))⟩,
  ⟨(some 104), .callp 0 19 [(.t 97), (.t 103)], (some (93, true))⟩,
  ⟨(some 105), .pick (.t 93) (.t 104) (.c (.bool false)), none⟩,
  ⟨(some 106), .mov (.t 105), none⟩,
  ⟨(some 107), .load 1 true (.t 4), (some (106, true))⟩,
  ⟨(some 108), .load 2 true (.t 5), (some (106, true))⟩,
  ⟨(some 109), .mov (.t 9), (some (106, true))⟩,
  ⟨(some 110), .mov (.t 3), (some (106, true))⟩,
  ⟨(some 111), .callp 0 22 [(.t 107), (.t 108), (.t 109), (.t 110)], (some (106, true))⟩,
  ⟨(some 112), .load 1 true (.t 4), (some (106, true))⟩,
  ⟨(some 113), .load 2 true (.t 5), (some (106, true))⟩,
  ⟨(some 114), .mov (.t 9), (some (106, true))⟩,
  ⟨(some 115), .mov (.t 3), (some (106, true))⟩,
  ⟨(some 116), .callp 0 23 [(.t 112), (.t 113), (.t 114), (.t 115)], (some (106, true))⟩,
  ⟨(some 117), .callp 0 19 [(.t 111), (.t 116)], (some (106, true))⟩,
  ⟨(some 118), .pick (.t 106) (.t 117) (.c (.bool false)), none⟩,
  ⟨(some 8), .mov (.t 118), none⟩]
/-- simulacrum/simulacrumlaw16.RingTakesAsSpecified -/
def f3 : IFn := ⟨(.seq (.ops false f3o0) (.seq (.seq (.ops false f3o1) (.cond (.t 19) (.seq (.ops false f3o2) .ret) .skip)) (.seq (.seq (.ops true f3o3) (.cond (.t 27) (.seq (.ops false f3o4) .ret) .skip)) (.seq (.seq (.ops false f3o5) (.cond (.t 31) (.seq (.ops false f3o6) .ret) .skip)) (.seq (.ops false f3o7) (.seq (.ops false f3o8) (.seq (.ops false f3o9) (.seq (.ops true f3o10) (.seq (.seq (.ops false f3o11) (.cond (.t 91) (.seq (.ops false f3o12) .ret) .skip)) (.seq (.ops true f3o13) .ret)))))))))), [.t 8], 119⟩
def f4o0 : List IOper := [
  ⟨(some 4), .box 24 (.t 0), none⟩,
  ⟨(some 5), .box 27 (.t 1), none⟩,
  ⟨(some 8), .mov (.c (.bool false)), none⟩]
def f4o1 : List IOper := [
  ⟨(some 19), .load 1 true (.t 4), none⟩,
  ⟨(some 20), .load 2 true (.t 5), none⟩,
  ⟨(some 21), .callp 0 13 [(.t 19), (.t 20)], none⟩,
  ⟨(some 22), .un .not (.t 21), none⟩,
  ⟨(some 23), .mov (.t 22), none⟩,
  ⟨(some 24), .mov (.t 3), (some (23, false))⟩,
  ⟨(some 25), .lenS (.t 24), (some (23, false))⟩,
  ⟨(some 26), .bin .gtr (.t 25) (.c (.int .i64 3000)), (some (23, false))⟩,
  ⟨(some 27), .pick (.t 23) (.c (.bool true)) (.t 26), none⟩]
def f4o2 : List IOper := [
  ⟨(some 28), .callp 0 10 [], none⟩,
  ⟨(some 8), .mov (.t 28), none⟩]
def f4o3 : List IOper := [
  ⟨(some 29), .mov (.t 2), none⟩,
  ⟨(some 30), .conv .i64 (.t 29), none⟩,
  ⟨(some 31), .fadd 1 (.t 5), none⟩,
  ⟨(some 32), .load 1 false (.t 31), none⟩,
  ⟨(some 33), .conv .i64 (.t 32), none⟩,
  ⟨(some 34), .bin .rem (.t 30) (.t 33), none⟩,
  ⟨(some 9), .mov (.t 34), none⟩]
def f4o4 : List IOper := [
  ⟨(some 36), .load 1 true (.t 4), none⟩,
  ⟨(some 37), .load 2 true (.t 5), none⟩,
  ⟨(some 38), .mov (.t 9), none⟩,
  ⟨(some 39), .callp 0 15 [(.t 36), (.t 37), (.t 38)], none⟩,
  ⟨(some 35), .mov (.t 39), none⟩,
  ⟨(some 40), .ext (.t 35) 0, none⟩,
  ⟨(some 41), .ext (.t 35) 1, none⟩,
  ⟨(some 42), .ext (.t 35) 2, none⟩,
  ⟨(some 10), .new 24 [(.sl 0 0 [])], none⟩,
  ⟨none, .store 1 (.t 10) (.t 40), none⟩,
  ⟨(some 11), .mov (.t 41), none⟩,
  ⟨(some 12), .mov (.t 42), none⟩]
def f4o5 : List IOper := [
  ⟨(some 43), .mov (.t 12), none⟩,
  ⟨(some 44), .bin .neq (.t 43) (.c (.int .i64 0)), none⟩]
def f4o6 : List IOper := [
  ⟨(some 45), .callp 0 10 [], none⟩,
  ⟨(some 46), .mov (.t 45), none⟩,
  ⟨(some 47), .mov (.t 11), (some (46, true))⟩,
  ⟨(some 48), .len 4 (.t 47), (some (46, true))⟩,
  ⟨(some 49), .bin .eql (.t 48) (.c (.int .i64 0)), (some (46, true))⟩,
  ⟨(some 50), .pick (.t 46) (.t 49) (.c (.bool false)), none⟩,
  ⟨(some 51), .mov (.t 50), none⟩,
  ⟨(some 52), .load 1 true (.t 4), (some (51, true))⟩,
  ⟨(some 53), .load 1 true (.t 10), (some (51, true))⟩,
  ⟨(some 54), .load 2 true (.t 5), (some (51, true))⟩,
  ⟨(some 55), .mov (.t 9), (some (51, true))⟩,
  ⟨(some 56), .callp 0 25 [(.t 54), (.t 55)], (some (51, true))⟩,
  ⟨(some 57), .bsl false 4 [(.int .i64 0), (.int .i64 0), (.int .i64 0), (.bool false)] [(0, 4, (.t 56))], (some (51, true))⟩,
  ⟨(some 58), .callp 0 24 [(.t 52), (.t 53), (.t 57)], (some (51, true))⟩,
  ⟨(some 59), .pick (.t 51) (.t 58) (.c (.bool false)), none⟩,
  ⟨(some 8), .mov (.t 59), none⟩]
def f4o7 : List IOper := [
  ⟨(some 13), .mov (.c (.sl 0 0 [])), none⟩,
  ⟨(some 14), .mov (.c (.sl 0 0 [])), none⟩]
def f4o8 : List IOper := [
  ⟨(some 60), .mov (.t 11), none⟩,
  ⟨(some 61), .len 4 (.t 60), none⟩,
  ⟨(some 62), .mov (.c (.int .i64 0)), none⟩]
def f4o9 : List IOper := [
  ⟨(some 63), .bin .lss (.t 62) (.t 61), none⟩]
def f4o10 : List IOper := [
  ⟨(some 64), .iaS 4 (.t 60) (.t 62), none⟩,
  ⟨(some 65), .load 4 true (.t 64), none⟩,
  ⟨(some 16), .new 51 [(.int .i64 0), (.int .i64 0), (.int .i64 0), (.bool false)], none⟩,
  ⟨none, .store 4 (.t 16) (.t 65), none⟩]
def f4o11 : List IOper := [
  ⟨(some 66), .mov (.t 13), none⟩,
  ⟨(some 67), .load 2 true (.t 5), none⟩,
  ⟨(some 68), .fadd 0 (.t 16), none⟩,
  ⟨(some 69), .load 1 false (.t 68), none⟩,
  ⟨(some 70), .callp 0 25 [(.t 67), (.t 69)], none⟩,
  ⟨(some 71), .bsl false 4 [(.int .i64 0), (.int .i64 0), (.int .i64 0), (.bool false)] [(0, 4, (.t 70))], none⟩,
  ⟨(some 72), .app 4 32 (.t 66) (.t 71), none⟩,
  ⟨(some 13), .mov (.t 72), none⟩]
def f4o12 : List IOper := [
  ⟨(some 73), .fadd 3 (.t 16), none⟩,
  ⟨(some 74), .load 1 false (.t 73), none⟩]
def f4o13 : List IOper := [
  ⟨(some 75), .mov (.t 14), none⟩,
  ⟨(some 76), .load 4 true (.t 16), none⟩,
  ⟨(some 77), .bsl false 4 [(.int .i64 0), (.int .i64 0), (.int .i64 0), (.bool false)] [(0, 4, (.t 76))], none⟩,
  ⟨(some 78), .app 4 32 (.t 75) (.t 77), none⟩,
  ⟨(some 14), .mov (.t 78), none⟩]
def f4o14 : List IOper := [
  ⟨(some 79), .bin .add (.t 62) (.c (.int .i64 1)), none⟩,
  ⟨(some 62), .mov (.t 79), none⟩]
def f4l15 : IC := (.seq (.ops false f4o9) (.seq (.cond (.t 63) .skip (.exit 0)) (.seq (.block 1 (.seq (.ops false f4o10) (.seq (.ops false f4o11) (.seq (.ops false f4o12) (.cond (.t 74) (.ops false f4o13) .skip))))) (.ops false f4o14))))
def f4o16 : List IOper := [
  ⟨(some 81), .load 1 true (.t 10), none⟩,
  ⟨(some 82), .mov (.t 11), none⟩,
  ⟨(some 83), .mov (.t 3), none⟩,
  ⟨(some 84), .callp 0 26 [(.t 81), (.t 82), (.t 83)], none⟩,
  ⟨(some 80), .mov (.t 84), none⟩,
  ⟨(some 85), .ext (.t 80) 0, none⟩,
  ⟨(some 86), .ext (.t 80) 1, none⟩,
  ⟨(some 17), .new 24 [(.sl 0 0 [])], none⟩,
  ⟨none, .store 1 (.t 17) (.t 85), none⟩,
  ⟨(some 18), .mov (.t 86), none⟩]
def f4o17 : List IOper := [
  ⟨(some 87), .callp 0 10 [], none⟩,
  ⟨(some 88), .mov (.t 87), none⟩,
  ⟨(some 89), .load 1 true (.t 4), (some (88, true))⟩,
  ⟨(some 90), .load 1 true (.t 10), (some (88, true))⟩,
  ⟨(some 91), .mov (.t 13), (some (88, true))⟩,
  ⟨(some 92), .callp 0 24 [(.t 89), (.t 90), (.t 91)], (some (88, true))⟩,
  ⟨(some 93), .pick (.t 88) (.t 92) (.c (.bool false)), none⟩,
  ⟨(some 94), .mov (.t 93), none⟩,
  ⟨(some 95), .load 1 true (.t 10), (some (94, true))⟩,
  ⟨(some 96), .load 1 true (.t 17), (some (94, true))⟩,
  ⟨(some 97), .mov (.t 14), (some (94, true))⟩,
  ⟨(some 98), .callp 0 24 [(.t 95), (.t 96), (.t 97)], (some (94, true))⟩,
  ⟨(some 99), .pick (.t 94) (.t 98) (.c (.bool false)), none⟩,
  ⟨(some 100), .mov (.t 99), none⟩,
  ⟨(some 101), .load 1 true (.t 10), (some (100, true))⟩,
  ⟨(some 102), .load 1 true (.t 10), (some (100, true))⟩,
  ⟨(some 103), .load 2 true (.t 5), (some (100, true))⟩,
  ⟨(some 104), .mov (.t 11), (some (100, true))⟩,
  ⟨(some 105), .callp 0 20 [(.t 102), (.t 103), (.t 104)], (some (100, true))⟩,
  ⟨(some 106), .mov (.t 13), (some (100, true))⟩,
  ⟨(some 107), .callp 0 24 [(.t 101), (.t 105), (.t 106)], (some (100, true))⟩,
  ⟨(some 108), .pick (.t 100) (.t 107) (.c (.bool false)), none⟩,
  ⟨(some 8), .mov (.t 108), none⟩]
/-- simulacrum/simulacrumlaw16.RingTouchesNothingElse -/
def f4 : IFn := ⟨(.seq (.ops false f4o0) (.seq (.seq (.ops false f4o1) (.cond (.t 27) (.seq (.ops false f4o2) .ret) .skip)) (.seq (.ops false f4o3) (.seq (.ops false f4o4) (.seq (.seq (.ops false f4o5) (.cond (.t 44) (.seq (.ops true f4o6) .ret) .skip)) (.seq (.ops false f4o7) (.seq (.seq (.ops false f4o8) (.block 0 (.loop f4l15))) (.seq (.ops false f4o16) (.seq (.ops true f4o17) .ret))))))))), [.t 8], 109⟩
def f5o0 : List IOper := [
  ⟨(some 3), .box 24 (.t 0), none⟩,
  ⟨(some 4), .box 27 (.t 1), none⟩,
  ⟨(some 6), .mov (.c (.bool false)), none⟩]
def f5o1 : List IOper := [
  ⟨(some 19), .load 1 true (.t 3), none⟩,
  ⟨(some 20), .load 2 true (.t 4), none⟩,
  ⟨(some 21), .callp 0 13 [(.t 19), (.t 20)], none⟩,
  ⟨(some 22), .un .not (.t 21), none⟩]
def f5o2 : List IOper := [
  ⟨(some 23), .callp 0 10 [], none⟩,
  ⟨(some 6), .mov (.t 23), none⟩]
def f5o3 : List IOper := [
  ⟨(some 24), .mov (.t 2), none⟩,
  ⟨(some 25), .conv .i64 (.t 24), none⟩,
  ⟨(some 26), .fadd 1 (.t 4), none⟩,
  ⟨(some 27), .load 1 false (.t 26), none⟩,
  ⟨(some 28), .conv .i64 (.t 27), none⟩,
  ⟨(some 29), .bin .rem (.t 25) (.t 28), none⟩,
  ⟨(some 7), .mov (.t 29), none⟩]
def f5o4 : List IOper := [
  ⟨(some 31), .load 1 true (.t 3), none⟩,
  ⟨(some 32), .load 2 true (.t 4), none⟩,
  ⟨(some 33), .mov (.t 7), none⟩,
  ⟨(some 34), .callp 0 15 [(.t 31), (.t 32), (.t 33)], none⟩,
  ⟨(some 30), .mov (.t 34), none⟩,
  ⟨(some 35), .ext (.t 30) 0, none⟩,
  ⟨(some 36), .ext (.t 30) 1, none⟩,
  ⟨(some 37), .ext (.t 30) 2, none⟩,
  ⟨(some 8), .new 24 [(.sl 0 0 [])], none⟩,
  ⟨none, .store 1 (.t 8) (.t 35), none⟩,
  ⟨(some 9), .mov (.t 36), none⟩,
  ⟨(some 10), .mov (.t 37), none⟩]
def f5o5 : List IOper := [
  ⟨(some 38), .mov (.t 10), none⟩,
  ⟨(some 39), .bin .neq (.t 38) (.c (.int .i64 0)), none⟩]
def f5o6 : List IOper := [
  ⟨(some 40), .load 1 true (.t 3), none⟩,
  ⟨(some 41), .load 2 true (.t 4), none⟩,
  ⟨(some 42), .mov (.t 7), none⟩,
  ⟨(some 43), .callp 0 27 [(.t 40), (.t 41), (.t 42)], none⟩,
  ⟨(some 44), .load 1 true (.t 8), none⟩,
  ⟨(some 45), .load 2 true (.t 4), none⟩,
  ⟨(some 46), .mov (.t 7), none⟩,
  ⟨(some 47), .callp 0 27 [(.t 44), (.t 45), (.t 46)], none⟩,
  ⟨(some 11), .mov (.t 43), none⟩,
  ⟨(some 12), .mov (.t 47), none⟩]
def f5o7 : List IOper := [
  ⟨(some 48), .callp 0 10 [], none⟩,
  ⟨(some 49), .mov (.t 48), none⟩,
  ⟨(some 50), .mov (.t 11), (some (49, true))⟩,
  ⟨(some 51), .bin .neq (.t 50) (.c (.int .u32 1)), (some (49, true))⟩,
  ⟨(some 52), .mov (.t 51), (some (49, true))⟩,
  ⟨(some 53), .mov (.t 12), (some (52, true))⟩,
  ⟨(some 54), .mov (.t 11), (some (52, true))⟩,
  ⟨(some 55), .bin .eql (.t 53) (.t 54), (some (52, true))⟩,
  ⟨(some 56), .pick (.t 52) (.t 55) (.c (.bool false)), (some (49, true))⟩,
  ⟨(some 57), .mov (.t 56), (some (49, true))⟩,
  ⟨(some 58), .mov (.t 10), (some (57, true))⟩,
  ⟨(some 59), .bin .eql (.t 58) (.c (.int .i64 165)), (some (57, true))⟩,
  ⟨(some 60), .pick (.t 57) (.t 59) (.c (.bool false)), (some (49, true))⟩,
  ⟨(some 61), .mov (.t 60), (some (49, true))⟩,
  ⟨(some 62), .mov (.t 11), (some (61, false))⟩,
  ⟨(some 63), .bin .eql (.t 62) (.c (.int .u32 1)), (some (61, false))⟩,
  ⟨(some 64), .mov (.t 63), (some (61, false))⟩,
  ⟨(some 65), .mov (.t 12), (some (64, true))⟩,
  ⟨(some 66), .mov (.t 10), (some (64, true))⟩,
  ⟨(some 67), .bin .sub (.t 66) (.c (.int .i64 160)), (some (64, true))⟩,
  ⟨(some 68), .conv .u32 (.t 67), (some (64, true))⟩,
  ⟨(some 69), .bin .add (.c (.int .u32 4)) (.t 68), (some (64, true))⟩,
  ⟨(some 70), .bin .eql (.t 65) (.t 69), (some (64, true))⟩,
  ⟨(some 71), .pick (.t 64) (.t 70) (.c (.bool false)), (some (61, false))⟩,
  ⟨(some 72), .mov (.t 71), (some (61, false))⟩,
  ⟨(some 73), .mov (.t 10), (some (72, true))⟩,
  ⟨(some 74), .bin .gtr (.t 73) (.c (.int .i64 160)), (some (72, true))⟩,
  ⟨(some 75), .pick (.t 72) (.t 74) (.c (.bool false)), (some (61, false))⟩,
  ⟨(some 76), .mov (.t 75), (some (61, false))⟩,
  ⟨(some 77), .mov (.t 10), (some (76, true))⟩,
  ⟨(some 78), .bin .leq (.t 77) (.c (.int .i64 165)), (some (76, true))⟩,
  ⟨(some 79), .pick (.t 76) (.t 78) (.c (.bool false)), (some (61, false))⟩,
  ⟨(some 80), .pick (.t 61) (.c (.bool true)) (.t 79), (some (49, true))⟩,
  ⟨(some 81), .pick (.t 49) (.t 80) (.c (.bool false)), none⟩,
  ⟨(some 6), .mov (.t 81), none⟩]
def f5o8 : List IOper := [
  ⟨(some 82), .load 1 true (.t 8), none⟩,
  ⟨(some 83), .load 2 true (.t 4), none⟩,
  ⟨(some 84), .mov (.t 9), none⟩,
  ⟨(some 85), .callp 0 20 [(.t 82), (.t 83), (.t 84)], none⟩,
  ⟨(some 13), .new 24 [(.sl 0 0 [])], none⟩,
  ⟨none, .store 1 (.t 13) (.t 85), none⟩]
def f5o9 : List IOper := [
  ⟨(some 86), .mov (.t 9), none⟩,
  ⟨(some 87), .len 4 (.t 86), none⟩,
  ⟨(some 88), .mov (.c (.int .i64 0)), none⟩]
def f5o10 : List IOper := [
  ⟨(some 89), .bin .lss (.t 88) (.t 87), none⟩]
def f5o11 : List IOper := [
  ⟨(some 90), .iaS 4 (.t 86) (.t 88), none⟩,
  ⟨(some 91), .load 4 true (.t 90), none⟩,
  ⟨(some 15), .new 51 [(.int .i64 0), (.int .i64 0), (.int .i64 0), (.bool false)], none⟩,
  ⟨none, .store 4 (.t 15) (.t 91), none⟩]
def f5o12 : List IOper := [
  ⟨(some 93), .load 1 true (.t 8), none⟩,
  ⟨(some 94), .load 2 true (.t 4), none⟩,
  ⟨(some 95), .fadd 0 (.t 15), none⟩,
  ⟨(some 96), .load 1 false (.t 95), none⟩,
  ⟨(some 97), .callp 0 15 [(.t 93), (.t 94), (.t 96)], none⟩,
  ⟨(some 92), .mov (.t 97), none⟩,
  ⟨(some 98), .ext (.t 92) 0, none⟩,
  ⟨(some 99), .ext (.t 92) 1, none⟩,
  ⟨(some 100), .ext (.t 92) 2, none⟩,
  ⟨(some 16), .new 24 [(.sl 0 0 [])], none⟩,
  ⟨none, .store 1 (.t 16) (.t 98), none⟩,
  ⟨(some 17), .mov (.t 99), none⟩,
  ⟨(some 18), .mov (.t 100), none⟩]
def f5o13 : List IOper := [
  ⟨(some 101), .load 1 true (.t 3), none⟩,
  ⟨(some 102), .load 2 true (.t 4), none⟩,
  ⟨(some 103), .fadd 0 (.t 15), none⟩,
  ⟨(some 104), .load 1 false (.t 103), none⟩,
  ⟨(some 105), .callp 0 27 [(.t 101), (.t 102), (.t 104)], none⟩,
  ⟨(some 106), .bin .neq (.t 105) (.c (.int .u32 1)), none⟩,
  ⟨(some 107), .mov (.t 106), none⟩,
  ⟨(some 108), .load 1 true (.t 8), (some (107, false))⟩,
  ⟨(some 109), .load 2 true (.t 4), (some (107, false))⟩,
  ⟨(some 110), .fadd 0 (.t 15), (some (107, false))⟩,
  ⟨(some 111), .load 1 false (.t 110), (some (107, false))⟩,
  ⟨(some 112), .callp 0 27 [(.t 108), (.t 109), (.t 111)], (some (107, false))⟩,
  ⟨(some 113), .bin .neq (.t 112) (.c (.int .u32 2)), (some (107, false))⟩,
  ⟨(some 114), .pick (.t 107) (.c (.bool true)) (.t 113), none⟩,
  ⟨(some 115), .mov (.t 114), none⟩,
  ⟨(some 116), .mov (.t 18), (some (115, false))⟩,
  ⟨(some 117), .bin .neq (.t 116) (.c (.int .i64 165)), (some (115, false))⟩,
  ⟨(some 118), .pick (.t 115) (.c (.bool true)) (.t 117), none⟩,
  ⟨(some 119), .mov (.t 118), none⟩,
  ⟨(some 120), .mov (.t 17), (some (119, false))⟩,
  ⟨(some 121), .len 4 (.t 120), (some (119, false))⟩,
  ⟨(some 122), .bin .neq (.t 121) (.c (.int .i64 0)), (some (119, false))⟩,
  ⟨(some 123), .pick (.t 119) (.c (.bool true)) (.t 122), none⟩,
  ⟨(some 124), .mov (.t 123), none⟩,
  ⟨(some 125), .load 1 true (.t 8), (some (124, false))⟩,
  ⟨(some 126), .load 1 true (.t 16), (some (124, false))⟩,
  ⟨(some 127), .callp 0 28 [(.t 125), (.t 126)], (some (124, false))⟩,
  ⟨(some 128), .len 1 (.t 127), (some (124, false))⟩,
  ⟨(some 129), .bin .neq (.t 128) (.c (.int .i64 0)), (some (124, false))⟩,
  ⟨(some 130), .pick (.t 124) (.c (.bool true)) (.t 129), none⟩,
  ⟨(some 131), .mov (.t 130), none⟩,
  ⟨(some 132), .load 1 true (.t 13), (some (131, false))⟩,
  ⟨(some 133), .load 2 true (.t 4), (some (131, false))⟩,
  ⟨(some 134), .fadd 0 (.t 15), (some (131, false))⟩,
  ⟨(some 135), .load 1 false (.t 134), (some (131, false))⟩,
  ⟨(some 136), .callp 0 27 [(.t 132), (.t 133), (.t 135)], (some (131, false))⟩,
  ⟨(some 137), .bin .neq (.t 136) (.c (.int .u32 3)), (some (131, false))⟩,
  ⟨(some 138), .pick (.t 131) (.c (.bool true)) (.t 137), none⟩]
def f5o14 : List IOper := [
  ⟨(some 6), .mov (.c (.bool false)), none⟩]
def f5o15 : List IOper := [
  ⟨(some 139), .bin .add (.t 88) (.c (.int .i64 1)), none⟩,
  ⟨(some 88), .mov (.t 139), none⟩]
def f5l16 : IC := (.seq (.ops false f5o10) (.seq (.cond (.t 89) .skip (.exit 0)) (.seq (.block 1 (.seq (.ops false f5o11) (.seq (.ops false f5o12) (.seq (.ops false f5o13) (.cond (.t 138) (.seq (.ops false f5o14) .ret) .skip))))) (.ops false f5o15))))
def f5o17 : List IOper := [
  ⟨(some 140), .callp 0 10 [], none⟩,
  ⟨(some 141), .mov (.t 140), none⟩,
  ⟨(some 142), .mov (.t 9), (some (141, true))⟩,
  ⟨(some 143), .len 4 (.t 142), (some (141, true))⟩,
  ⟨(some 144), .bin .gtr (.t 143) (.c (.int .i64 0)), (some (141, true))⟩,
  ⟨(some 145), .pick (.t 141) (.t 144) (.c (.bool false)), none⟩,
  ⟨(some 146), .mov (.t 145), none⟩,
  ⟨(some 147), .mov (.t 9), (some (146, true))⟩,
  ⟨(some 148), .iaS 4 (.t 147) (.c (.int .i64 0)), (some (146, true))⟩,
  ⟨(some 149), .fadd 0 (.t 148), (some (146, true))⟩,
  ⟨(some 150), .load 1 false (.t 149), (some (146, true))⟩,
  ⟨(some 151), .mov (.t 7), (some (146, true))⟩,
  ⟨(some 152), .bin .eql (.t 150) (.t 151), (some (146, true))⟩,
  ⟨(some 153), .pick (.t 146) (.t 152) (.c (.bool false)), none⟩,
  ⟨(some 6), .mov (.t 153), none⟩]
/-- simulacrum/simulacrumlaw16.RingTakesOnce -/
def f5 : IFn := ⟨(.seq (.ops false f5o0) (.seq (.seq (.ops false f5o1) (.cond (.t 22) (.seq (.ops false f5o2) .ret) .skip)) (.seq (.ops false f5o3) (.seq (.ops false f5o4) (.seq (.seq (.ops false f5o5) (.cond (.t 39) (.seq (.ops true f5o6) (.seq (.ops false f5o7) .ret)) .skip)) (.seq (.ops false f5o8) (.seq (.seq (.ops false f5o9) (.block 0 (.loop f5l16))) (.seq (.ops false f5o17) .ret)))))))), [.t 6], 154⟩
def f6o0 : List IOper := [
  ⟨(some 4), .box 24 (.t 0), none⟩,
  ⟨(some 5), .box 27 (.t 1), none⟩,
  ⟨(some 8), .mov (.c (.bool false)), none⟩]
def f6o1 : List IOper := [
  ⟨(some 13), .load 1 true (.t 4), none⟩,
  ⟨(some 14), .load 2 true (.t 5), none⟩,
  ⟨(some 15), .callp 0 13 [(.t 13), (.t 14)], none⟩,
  ⟨(some 16), .un .not (.t 15), none⟩,
  ⟨(some 17), .mov (.t 16), none⟩,
  ⟨(some 18), .mov (.t 3), (some (17, false))⟩,
  ⟨(some 19), .lenS (.t 18), (some (17, false))⟩,
  ⟨(some 20), .bin .gtr (.t 19) (.c (.int .i64 3000)), (some (17, false))⟩,
  ⟨(some 21), .pick (.t 17) (.c (.bool true)) (.t 20), none⟩]
def f6o2 : List IOper := [
  ⟨(some 22), .callp 0 10 [], none⟩,
  ⟨(some 8), .mov (.t 22), none⟩]
def f6o3 : List IOper := [
  ⟨(some 23), .load 1 true (.t 4), none⟩,
  ⟨(some 24), .load 2 true (.t 5), none⟩,
  ⟨(some 25), .mov (.t 2), none⟩,
  ⟨(some 26), .conv .i64 (.t 25), none⟩,
  ⟨(some 27), .fadd 1 (.t 5), none⟩,
  ⟨(some 28), .load 1 false (.t 27), none⟩,
  ⟨(some 29), .conv .i64 (.t 28), none⟩,
  ⟨(some 30), .bin .rem (.t 26) (.t 29), none⟩,
  ⟨(some 31), .callp 0 17 [(.t 23), (.t 24), (.t 30)], none⟩,
  ⟨(some 32), .fld 1 1 false (.t 31), none⟩,
  ⟨(some 9), .mov (.t 32), none⟩]
def f6o4 : List IOper := [
  ⟨(some 34), .load 1 true (.t 4), none⟩,
  ⟨(some 35), .mov (.t 9), none⟩,
  ⟨(some 36), .mov (.t 3), none⟩,
  ⟨(some 37), .callp 0 26 [(.t 34), (.t 35), (.t 36)], none⟩,
  ⟨(some 33), .mov (.t 37), none⟩,
  ⟨(some 38), .ext (.t 33) 0, none⟩,
  ⟨(some 39), .ext (.t 33) 1, none⟩,
  ⟨(some 10), .new 24 [(.sl 0 0 [])], none⟩,
  ⟨none, .store 1 (.t 10) (.t 38), none⟩,
  ⟨(some 11), .mov (.t 39), none⟩]
def f6o5 : List IOper := [
  ⟨(some 40), .load 1 true (.t 4), none⟩,
  ⟨(some 41), .mov (.t 9), none⟩,
  ⟨(some 42), .mov (.t 3), none⟩,
  ⟨(some 43), .callp 0 29 [(.t 40), (.t 41), (.t 42)], none⟩,
  ⟨(some 12), .new 61 [(.sl 0 0 []), (.int .i64 0)], none⟩,
  ⟨none, .store 2 (.t 12) (.t 43), none⟩]
def f6o6 : List IOper := [
  ⟨(some 44), .callp 0 10 [], none⟩,
  ⟨(some 45), .mov (.t 44), none⟩,
  ⟨(some 46), .load 1 true (.t 4), (some (45, true))⟩,
  ⟨(some 47), .mov (.t 9), (some (45, true))⟩,
  ⟨(some 48), .callp 0 30 [(.t 46), (.t 47)], (some (45, true))⟩,
  ⟨(some 49), .load 1 true (.t 4), (some (45, true))⟩,
  ⟨(some 50), .mov (.t 9), (some (45, true))⟩,
  ⟨(some 51), .callp 0 31 [(.t 49), (.t 50)], (some (45, true))⟩,
  ⟨(some 52), .bin .eql (.t 48) (.t 51), (some (45, true))⟩,
  ⟨(some 53), .pick (.t 45) (.t 52) (.c (.bool false)), none⟩,
  ⟨(some 54), .mov (.t 53), none⟩,
  ⟨(some 55), .mov (.t 9), (some (54, true))⟩,
  ⟨(some 56), .callp 0 32 [(.t 55)], (some (54, true))⟩,
  ⟨(some 57), .mov (.t 9), (some (54, true))⟩,
  ⟨(some 58), .callp 0 33 [(.t 57)], (some (54, true))⟩,
  ⟨(some 59), .bin .eql (.t 56) (.t 58), (some (54, true))⟩,
  ⟨(some 60), .pick (.t 54) (.t 59) (.c (.bool false)), none⟩,
  ⟨(some 61), .mov (.t 60), none⟩,
  ⟨(some 62), .mov (.t 11), (some (61, true))⟩,
  ⟨(some 63), .fadd 1 (.t 12), (some (61, true))⟩,
  ⟨(some 64), .load 1 false (.t 63), (some (61, true))⟩,
  ⟨(some 65), .bin .eql (.t 62) (.t 64), (some (61, true))⟩,
  ⟨(some 66), .pick (.t 61) (.t 65) (.c (.bool false)), none⟩,
  ⟨(some 67), .mov (.t 66), none⟩,
  ⟨(some 68), .load 1 true (.t 10), (some (67, true))⟩,
  ⟨(some 69), .fadd 0 (.t 12), (some (67, true))⟩,
  ⟨(some 70), .load 1 true (.t 69), (some (67, true))⟩,
  ⟨(some 71), .callp 0 19 [(.t 68), (.t 70)], (some (67, true))⟩,
  ⟨(some 72), .pick (.t 67) (.t 71) (.c (.bool false)), none⟩,
  ⟨(some 8), .mov (.t 72), none⟩]
/-- simulacrum/simulacrumlaw16.RingMovesAsSpecified -/
def f6 : IFn := ⟨(.seq (.ops false f6o0) (.seq (.seq (.ops false f6o1) (.cond (.t 21) (.seq (.ops false f6o2) .ret) .skip)) (.seq (.ops true f6o3) (.seq (.ops false f6o4) (.seq (.ops false f6o5) (.seq (.ops true f6o6) .ret)))))), [.t 8], 73⟩
def f7o0 : List IOper := [
  ⟨(some 3), .box 24 (.t 0), none⟩,
  ⟨(some 4), .box 27 (.t 1), none⟩,
  ⟨(some 6), .mov (.c (.bool false)), none⟩]
def f7o1 : List IOper := [
  ⟨(some 15), .load 1 true (.t 3), none⟩,
  ⟨(some 16), .load 2 true (.t 4), none⟩,
  ⟨(some 17), .callp 0 13 [(.t 15), (.t 16)], none⟩,
  ⟨(some 18), .un .not (.t 17), none⟩]
def f7o2 : List IOper := [
  ⟨(some 19), .callp 0 10 [], none⟩,
  ⟨(some 6), .mov (.t 19), none⟩]
def f7o3 : List IOper := [
  ⟨(some 21), .load 1 true (.t 3), none⟩,
  ⟨(some 22), .load 2 true (.t 4), none⟩,
  ⟨(some 23), .mov (.t 2), none⟩,
  ⟨(some 24), .conv .i64 (.t 23), none⟩,
  ⟨(some 25), .fadd 1 (.t 4), none⟩,
  ⟨(some 26), .load 1 false (.t 25), none⟩,
  ⟨(some 27), .conv .i64 (.t 26), none⟩,
  ⟨(some 28), .bin .rem (.t 24) (.t 27), none⟩,
  ⟨(some 29), .callp 0 15 [(.t 21), (.t 22), (.t 28)], none⟩,
  ⟨(some 20), .mov (.t 29), none⟩,
  ⟨(some 30), .ext (.t 20) 0, none⟩,
  ⟨(some 31), .ext (.t 20) 1, none⟩,
  ⟨(some 32), .ext (.t 20) 2, none⟩,
  ⟨(some 7), .new 24 [(.sl 0 0 [])], none⟩,
  ⟨none, .store 1 (.t 7) (.t 30), none⟩,
  ⟨(some 8), .mov (.t 31), none⟩,
  ⟨(some 9), .mov (.t 32), none⟩]
def f7o4 : List IOper := [
  ⟨(some 10), .mov (.c (.int .i64 0)), none⟩]
def f7o5 : List IOper := [
  ⟨(some 33), .mov (.t 8), none⟩,
  ⟨(some 34), .len 4 (.t 33), none⟩,
  ⟨(some 35), .mov (.c (.int .i64 0)), none⟩]
def f7o6 : List IOper := [
  ⟨(some 36), .bin .lss (.t 35) (.t 34), none⟩]
def f7o7 : List IOper := [
  ⟨(some 37), .mov (.t 35), none⟩,
  ⟨(some 38), .iaS 4 (.t 33) (.t 35), none⟩,
  ⟨(some 39), .load 4 true (.t 38), none⟩,
  ⟨(some 12), .new 51 [(.int .i64 0), (.int .i64 0), (.int .i64 0), (.bool false)], none⟩,
  ⟨(some 11), .mov (.t 37), none⟩,
  ⟨none, .store 4 (.t 12) (.t 39), none⟩]
def f7o8 : List IOper := [
  ⟨(some 40), .fadd 0 (.t 12), none⟩,
  ⟨(some 41), .load 1 false (.t 40), none⟩,
  ⟨(some 42), .bin .lss (.t 41) (.c (.int .i64 0)), none⟩,
  ⟨(some 43), .mov (.t 42), none⟩,
  ⟨(some 44), .fadd 0 (.t 12), (some (43, false))⟩,
  ⟨(some 45), .load 1 false (.t 44), (some (43, false))⟩,
  ⟨(some 46), .fadd 1 (.t 4), (some (43, false))⟩,
  ⟨(some 47), .load 1 false (.t 46), (some (43, false))⟩,
  ⟨(some 48), .conv .i64 (.t 47), (some (43, false))⟩,
  ⟨(some 49), .bin .geq (.t 45) (.t 48), (some (43, false))⟩,
  ⟨(some 50), .pick (.t 43) (.c (.bool true)) (.t 49), none⟩,
  ⟨(some 51), .mov (.t 50), none⟩,
  ⟨(some 52), .fadd 2 (.t 12), (some (51, false))⟩,
  ⟨(some 53), .load 1 false (.t 52), (some (51, false))⟩,
  ⟨(some 54), .bin .lss (.t 53) (.c (.int .i64 1)), (some (51, false))⟩,
  ⟨(some 55), .pick (.t 51) (.c (.bool true)) (.t 54), none⟩,
  ⟨(some 56), .mov (.t 55), none⟩,
  ⟨(some 57), .fadd 2 (.t 12), (some (56, false))⟩,
  ⟨(some 58), .load 1 false (.t 57), (some (56, false))⟩,
  ⟨(some 59), .bin .gtr (.t 58) (.c (.int .i64 512)), (some (56, false))⟩,
  ⟨(some 60), .pick (.t 56) (.c (.bool true)) (.t 59), none⟩,
  ⟨(some 61), .mov (.t 60), none⟩,
  ⟨(some 62), .fadd 1 (.t 12), (some (61, false))⟩,
  ⟨(some 63), .load 1 false (.t 62), (some (61, false))⟩,
  ⟨(some 64), .bin .lss (.t 63) (.c (.int .i64 0)), (some (61, false))⟩,
  ⟨(some 65), .pick (.t 61) (.c (.bool true)) (.t 64), none⟩,
  ⟨(some 66), .mov (.t 65), none⟩,
  ⟨(some 67), .fadd 1 (.t 12), (some (66, false))⟩,
  ⟨(some 68), .load 1 false (.t 67), (some (66, false))⟩,
  ⟨(some 69), .fadd 2 (.t 12), (some (66, false))⟩,
  ⟨(some 70), .load 1 false (.t 69), (some (66, false))⟩,
  ⟨(some 71), .bin .add (.t 68) (.t 70), (some (66, false))⟩,
  ⟨(some 72), .load 1 true (.t 3), (some (66, false))⟩,
  ⟨(some 73), .callp 0 34 [(.t 72)], (some (66, false))⟩,
  ⟨(some 74), .bin .gtr (.t 71) (.t 73), (some (66, false))⟩,
  ⟨(some 75), .pick (.t 66) (.c (.bool true)) (.t 74), none⟩]
def f7o9 : List IOper := [
  ⟨(some 6), .mov (.c (.bool false)), none⟩]
def f7o10 : List IOper := [
  ⟨(some 76), .mov (.t 8), none⟩,
  ⟨(some 77), .mov (.t 11), none⟩,
  ⟨(some 78), .slL 4 (.t 76) none (some (.t 77)) none, none⟩,
  ⟨(some 79), .len 4 (.t 78), none⟩,
  ⟨(some 80), .mov (.c (.int .i64 0)), none⟩]
def f7o11 : List IOper := [
  ⟨(some 81), .bin .lss (.t 80) (.t 79), none⟩]
def f7o12 : List IOper := [
  ⟨(some 82), .iaS 4 (.t 78) (.t 80), none⟩,
  ⟨(some 83), .load 4 true (.t 82), none⟩,
  ⟨(some 14), .new 51 [(.int .i64 0), (.int .i64 0), (.int .i64 0), (.bool false)], none⟩,
  ⟨none, .store 4 (.t 14) (.t 83), none⟩]
def f7o13 : List IOper := [
  ⟨(some 84), .fadd 0 (.t 14), none⟩,
  ⟨(some 85), .load 1 false (.t 84), none⟩,
  ⟨(some 86), .fadd 0 (.t 12), none⟩,
  ⟨(some 87), .load 1 false (.t 86), none⟩,
  ⟨(some 88), .bin .eql (.t 85) (.t 87), none⟩,
  ⟨(some 89), .mov (.t 88), none⟩,
  ⟨(some 90), .fadd 3 (.t 14), (some (89, false))⟩,
  ⟨(some 91), .load 1 false (.t 90), (some (89, false))⟩,
  ⟨(some 92), .mov (.t 91), (some (89, false))⟩,
  ⟨(some 93), .fadd 3 (.t 12), (some (92, true))⟩,
  ⟨(some 94), .load 1 false (.t 93), (some (92, true))⟩,
  ⟨(some 95), .un .not (.t 94), (some (92, true))⟩,
  ⟨(some 96), .pick (.t 92) (.t 95) (.c (.bool false)), (some (89, false))⟩,
  ⟨(some 97), .pick (.t 89) (.c (.bool true)) (.t 96), none⟩]
def f7o14 : List IOper := [
  ⟨(some 6), .mov (.c (.bool false)), none⟩]
def f7o15 : List IOper := [
  ⟨(some 98), .bin .add (.t 80) (.c (.int .i64 1)), none⟩,
  ⟨(some 80), .mov (.t 98), none⟩]
def f7l16 : IC := (.seq (.ops false f7o11) (.seq (.cond (.t 81) .skip (.exit 2)) (.seq (.block 3 (.seq (.ops false f7o12) (.seq (.ops false f7o13) (.cond (.t 97) (.seq (.ops false f7o14) .ret) .skip)))) (.ops false f7o15))))
def f7o17 : List IOper := [
  ⟨(some 99), .mov (.t 10), none⟩,
  ⟨(some 100), .fadd 2 (.t 12), none⟩,
  ⟨(some 101), .load 1 false (.t 100), none⟩,
  ⟨(some 102), .bin .add (.t 99) (.t 101), none⟩,
  ⟨(some 10), .mov (.t 102), none⟩]
def f7o18 : List IOper := [
  ⟨(some 103), .bin .add (.t 35) (.c (.int .i64 1)), none⟩,
  ⟨(some 35), .mov (.t 103), none⟩]
def f7l19 : IC := (.seq (.ops false f7o6) (.seq (.cond (.t 36) .skip (.exit 0)) (.seq (.block 1 (.seq (.ops false f7o7) (.seq (.seq (.ops true f7o8) (.cond (.t 75) (.seq (.ops false f7o9) .ret) .skip)) (.seq (.seq (.ops false f7o10) (.block 2 (.loop f7l16))) (.ops false f7o17))))) (.ops false f7o18))))
def f7o20 : List IOper := [
  ⟨(some 104), .callp 0 10 [], none⟩,
  ⟨(some 105), .mov (.t 104), none⟩,
  ⟨(some 106), .mov (.t 8), (some (105, true))⟩,
  ⟨(some 107), .len 4 (.t 106), (some (105, true))⟩,
  ⟨(some 108), .bin .leq (.t 107) (.c (.int .i64 4)), (some (105, true))⟩,
  ⟨(some 109), .pick (.t 105) (.t 108) (.c (.bool false)), none⟩,
  ⟨(some 110), .mov (.t 109), none⟩,
  ⟨(some 111), .load 1 true (.t 3), (some (110, true))⟩,
  ⟨(some 112), .mov (.t 8), (some (110, true))⟩,
  ⟨(some 113), .callp 0 30 [(.t 111), (.t 112)], (some (110, true))⟩,
  ⟨(some 114), .lenS (.t 113), (some (110, true))⟩,
  ⟨(some 115), .mov (.t 8), (some (110, true))⟩,
  ⟨(some 116), .callp 0 32 [(.t 115)], (some (110, true))⟩,
  ⟨(some 117), .bin .add (.t 114) (.t 116), (some (110, true))⟩,
  ⟨(some 118), .mov (.t 10), (some (110, true))⟩,
  ⟨(some 119), .bin .eql (.t 117) (.t 118), (some (110, true))⟩,
  ⟨(some 120), .pick (.t 110) (.t 119) (.c (.bool false)), none⟩,
  ⟨(some 6), .mov (.t 120), none⟩]
/-- simulacrum/simulacrumlaw16.RingPartsFit -/
def f7 : IFn := ⟨(.seq (.ops false f7o0) (.seq (.seq (.ops false f7o1) (.cond (.t 18) (.seq (.ops false f7o2) .ret) .skip)) (.seq (.ops true f7o3) (.seq (.ops false f7o4) (.seq (.seq (.ops false f7o5) (.block 0 (.loop f7l19))) (.seq (.ops false f7o20) .ret)))))), [.t 6], 121⟩
def f8o0 : List IOper := [
  ⟨(some 4), .box 24 (.t 0), none⟩,
  ⟨(some 5), .box 27 (.t 1), none⟩,
  ⟨(some 8), .mov (.c (.bool false)), none⟩]
def f8o1 : List IOper := [
  ⟨(some 21), .load 1 true (.t 4), none⟩,
  ⟨(some 22), .load 2 true (.t 5), none⟩,
  ⟨(some 23), .callp 0 13 [(.t 21), (.t 22)], none⟩,
  ⟨(some 24), .un .not (.t 23), none⟩,
  ⟨(some 25), .mov (.t 24), none⟩,
  ⟨(some 26), .mov (.t 3), (some (25, false))⟩,
  ⟨(some 27), .lenS (.t 26), (some (25, false))⟩,
  ⟨(some 28), .bin .gtr (.t 27) (.c (.int .i64 3000)), (some (25, false))⟩,
  ⟨(some 29), .pick (.t 25) (.c (.bool true)) (.t 28), none⟩]
def f8o2 : List IOper := [
  ⟨(some 30), .callp 0 10 [], none⟩,
  ⟨(some 8), .mov (.t 30), none⟩]
def f8o3 : List IOper := [
  ⟨(some 32), .load 1 true (.t 4), none⟩,
  ⟨(some 33), .load 2 true (.t 5), none⟩,
  ⟨(some 34), .mov (.t 2), none⟩,
  ⟨(some 35), .conv .i64 (.t 34), none⟩,
  ⟨(some 36), .fadd 1 (.t 5), none⟩,
  ⟨(some 37), .load 1 false (.t 36), none⟩,
  ⟨(some 38), .conv .i64 (.t 37), none⟩,
  ⟨(some 39), .bin .rem (.t 35) (.t 38), none⟩,
  ⟨(some 40), .callp 0 15 [(.t 32), (.t 33), (.t 39)], none⟩,
  ⟨(some 31), .mov (.t 40), none⟩,
  ⟨(some 41), .ext (.t 31) 0, none⟩,
  ⟨(some 42), .ext (.t 31) 1, none⟩,
  ⟨(some 43), .ext (.t 31) 2, none⟩,
  ⟨(some 9), .new 24 [(.sl 0 0 [])], none⟩,
  ⟨none, .store 1 (.t 9) (.t 41), none⟩,
  ⟨(some 10), .mov (.t 42), none⟩,
  ⟨(some 11), .mov (.t 43), none⟩]
def f8o4 : List IOper := [
  ⟨(some 12), .mov (.c (.sl 0 0 [])), none⟩]
def f8o5 : List IOper := [
  ⟨(some 44), .mov (.t 10), none⟩,
  ⟨(some 45), .len 4 (.t 44), none⟩,
  ⟨(some 46), .mov (.c (.int .i64 0)), none⟩]
def f8o6 : List IOper := [
  ⟨(some 47), .bin .lss (.t 46) (.t 45), none⟩]
def f8o7 : List IOper := [
  ⟨(some 48), .iaS 4 (.t 44) (.t 46), none⟩,
  ⟨(some 49), .load 4 true (.t 48), none⟩,
  ⟨(some 14), .new 51 [(.int .i64 0), (.int .i64 0), (.int .i64 0), (.bool false)], none⟩,
  ⟨none, .store 4 (.t 14) (.t 49), none⟩]
def f8o8 : List IOper := [
  ⟨(some 50), .fadd 3 (.t 14), none⟩,
  ⟨(some 51), .load 1 false (.t 50), none⟩,
  ⟨(some 52), .un .not (.t 51), none⟩]
def f8o9 : List IOper := [
  ⟨(some 53), .mov (.t 12), none⟩,
  ⟨(some 54), .len 4 (.t 53), none⟩,
  ⟨(some 55), .mov (.c (.int .i64 0)), none⟩]
def f8o10 : List IOper := [
  ⟨(some 56), .bin .lss (.t 55) (.t 54), none⟩]
def f8o11 : List IOper := [
  ⟨(some 57), .iaS 4 (.t 53) (.t 55), none⟩,
  ⟨(some 58), .load 4 true (.t 57), none⟩,
  ⟨(some 16), .new 51 [(.int .i64 0), (.int .i64 0), (.int .i64 0), (.bool false)], none⟩,
  ⟨none, .store 4 (.t 16) (.t 58), none⟩]
def f8o12 : List IOper := [
  ⟨(some 59), .fadd 1 (.t 16), none⟩,
  ⟨(some 60), .load 1 false (.t 59), none⟩,
  ⟨(some 61), .fadd 1 (.t 14), none⟩,
  ⟨(some 62), .load 1 false (.t 61), none⟩,
  ⟨(some 63), .fadd 2 (.t 14), none⟩,
  ⟨(some 64), .load 1 false (.t 63), none⟩,
  ⟨(some 65), .bin .add (.t 62) (.t 64), none⟩,
  ⟨(some 66), .bin .lss (.t 60) (.t 65), none⟩,
  ⟨(some 67), .mov (.t 66), none⟩,
  ⟨(some 68), .fadd 1 (.t 14), (some (67, true))⟩,
  ⟨(some 69), .load 1 false (.t 68), (some (67, true))⟩,
  ⟨(some 70), .fadd 1 (.t 16), (some (67, true))⟩,
  ⟨(some 71), .load 1 false (.t 70), (some (67, true))⟩,
  ⟨(some 72), .fadd 2 (.t 16), (some (67, true))⟩,
  ⟨(some 73), .load 1 false (.t 72), (some (67, true))⟩,
  ⟨(some 74), .bin .add (.t 71) (.t 73), (some (67, true))⟩,
  ⟨(some 75), .bin .lss (.t 69) (.t 74), (some (67, true))⟩,
  ⟨(some 76), .pick (.t 67) (.t 75) (.c (.bool false)), none⟩]
def f8o13 : List IOper := [
  ⟨(some 77), .callp 0 10 [], none⟩,
  ⟨(some 8), .mov (.t 77), none⟩]
def f8o14 : List IOper := [
  ⟨(some 78), .bin .add (.t 55) (.c (.int .i64 1)), none⟩,
  ⟨(some 55), .mov (.t 78), none⟩]
def f8l15 : IC := (.seq (.ops false f8o10) (.seq (.cond (.t 56) .skip (.exit 2)) (.seq (.block 3 (.seq (.ops false f8o11) (.seq (.ops false f8o12) (.cond (.t 76) (.seq (.ops false f8o13) .ret) .skip)))) (.ops false f8o14))))
def f8o16 : List IOper := [
  ⟨(some 79), .mov (.t 12), none⟩,
  ⟨(some 80), .fadd 0 (.t 14), none⟩,
  ⟨(some 81), .load 1 false (.t 80), none⟩,
  ⟨(some 82), .fadd 1 (.t 14), none⟩,
  ⟨(some 83), .load 1 false (.t 82), none⟩,
  ⟨(some 84), .fadd 2 (.t 14), none⟩,
  ⟨(some 85), .load 1 false (.t 84), none⟩,
  ⟨(some 86), .build [(.int .i64 0), (.int .i64 0), (.int .i64 0), (.bool false)] [(0, 1, (.t 81)), (1, 1, (.t 83)), (2, 1, (.t 85))], none⟩,
  ⟨(some 87), .bsl false 4 [(.int .i64 0), (.int .i64 0), (.int .i64 0), (.bool false)] [(0, 4, (.t 86))], none⟩,
  ⟨(some 88), .app 4 32 (.t 79) (.t 87), none⟩,
  ⟨(some 12), .mov (.t 88), none⟩]
def f8o17 : List IOper := [
  ⟨(some 89), .bin .add (.t 46) (.c (.int .i64 1)), none⟩,
  ⟨(some 46), .mov (.t 89), none⟩]
def f8l18 : IC := (.seq (.ops false f8o6) (.seq (.cond (.t 47) .skip (.exit 0)) (.seq (.block 1 (.seq (.ops false f8o7) (.seq (.seq (.ops false f8o8) (.cond (.t 52) (.exit 1) .skip)) (.seq (.seq (.ops false f8o9) (.block 2 (.loop f8l15))) (.ops false f8o16))))) (.ops false f8o17))))
def f8o19 : List IOper := [
  ⟨(some 91), .load 1 true (.t 4), none⟩,
  ⟨(some 92), .mov (.t 10), none⟩,
  ⟨(some 93), .mov (.t 3), none⟩,
  ⟨(some 94), .callp 0 26 [(.t 91), (.t 92), (.t 93)], none⟩,
  ⟨(some 90), .mov (.t 94), none⟩,
  ⟨(some 95), .ext (.t 90) 0, none⟩,
  ⟨(some 96), .ext (.t 90) 1, none⟩,
  ⟨(some 17), .new 24 [(.sl 0 0 [])], none⟩,
  ⟨none, .store 1 (.t 17) (.t 95), none⟩,
  ⟨(some 18), .mov (.t 96), none⟩]
def f8o20 : List IOper := [
  ⟨(some 97), .load 1 true (.t 4), none⟩,
  ⟨(some 98), .mov (.t 12), none⟩,
  ⟨(some 99), .callp 0 30 [(.t 97), (.t 98)], none⟩,
  ⟨(some 100), .load 1 true (.t 17), none⟩,
  ⟨(some 101), .mov (.t 12), none⟩,
  ⟨(some 102), .callp 0 30 [(.t 100), (.t 101)], none⟩,
  ⟨(some 19), .mov (.t 99), none⟩,
  ⟨(some 20), .mov (.t 102), none⟩]
def f8o21 : List IOper := [
  ⟨(some 103), .mov (.t 18), none⟩,
  ⟨(some 104), .mov (.t 3), none⟩,
  ⟨(some 105), .lenS (.t 104), none⟩,
  ⟨(some 106), .mov (.t 10), none⟩,
  ⟨(some 107), .callp 0 32 [(.t 106)], none⟩,
  ⟨(some 108), .mn false [(.t 105), (.t 107)], none⟩,
  ⟨(some 109), .bin .neq (.t 103) (.t 108), none⟩,
  ⟨(some 110), .mov (.t 109), none⟩,
  ⟨(some 111), .mov (.t 20), (some (110, false))⟩,
  ⟨(some 112), .lenS (.t 111), (some (110, false))⟩,
  ⟨(some 113), .mov (.t 19), (some (110, false))⟩,
  ⟨(some 114), .lenS (.t 113), (some (110, false))⟩,
  ⟨(some 115), .bin .neq (.t 112) (.t 114), (some (110, false))⟩,
  ⟨(some 116), .pick (.t 110) (.c (.bool true)) (.t 115), none⟩]
def f8o22 : List IOper := [
  ⟨(some 8), .mov (.c (.bool false)), none⟩]
def f8o23 : List IOper := [
  ⟨(some 117), .callp 0 10 [], none⟩,
  ⟨(some 118), .mov (.t 117), none⟩,
  ⟨(some 119), .mov (.t 20), (some (118, true))⟩,
  ⟨(some 120), .mov (.t 18), (some (118, true))⟩,
  ⟨(some 121), .slS (.t 119) none (some (.t 120)), (some (118, true))⟩,
  ⟨(some 122), .mov (.t 3), (some (118, true))⟩,
  ⟨(some 123), .mov (.t 18), (some (118, true))⟩,
  ⟨(some 124), .slS (.t 122) none (some (.t 123)), (some (118, true))⟩,
  ⟨(some 125), .bin .eql (.t 121) (.t 124), (some (118, true))⟩,
  ⟨(some 126), .pick (.t 118) (.t 125) (.c (.bool false)), none⟩,
  ⟨(some 127), .mov (.t 126), none⟩,
  ⟨(some 128), .mov (.t 20), (some (127, true))⟩,
  ⟨(some 129), .mov (.t 18), (some (127, true))⟩,
  ⟨(some 130), .slS (.t 128) (some (.t 129)) none, (some (127, true))⟩,
  ⟨(some 131), .mov (.t 19), (some (127, true))⟩,
  ⟨(some 132), .mov (.t 18), (some (127, true))⟩,
  ⟨(some 133), .slS (.t 131) (some (.t 132)) none, (some (127, true))⟩,
  ⟨(some 134), .bin .eql (.t 130) (.t 133), (some (127, true))⟩,
  ⟨(some 135), .pick (.t 127) (.t 134) (.c (.bool false)), none⟩,
  ⟨(some 8), .mov (.t 135), none⟩]
/-- simulacrum/simulacrumlaw16.RingCarriesBytes -/
def f8 : IFn := ⟨(.seq (.ops false f8o0) (.seq (.seq (.ops false f8o1) (.cond (.t 29) (.seq (.ops false f8o2) .ret) .skip)) (.seq (.ops true f8o3) (.seq (.ops false f8o4) (.seq (.seq (.ops false f8o5) (.block 0 (.loop f8l18))) (.seq (.ops false f8o19) (.seq (.ops true f8o20) (.seq (.seq (.ops false f8o21) (.cond (.t 116) (.seq (.ops false f8o22) .ret) .skip)) (.seq (.ops true f8o23) .ret))))))))), [.t 8], 136⟩
def f9o0 : List IOper := [
  ⟨(some 1), .box 24 (.t 0), none⟩,
  ⟨(some 2), .mov (.c (.bool false)), none⟩]
def f9o1 : List IOper := [
  ⟨(some 3), .fadd 0 (.t 1), none⟩,
  ⟨(some 4), .load 1 false (.t 3), none⟩,
  ⟨(some 5), .len 128 (.t 4), none⟩,
  ⟨(some 6), .bin .geq (.t 5) (.c (.int .i64 1)), none⟩,
  ⟨(some 7), .mov (.t 6), none⟩,
  ⟨(some 8), .fadd 0 (.t 1), (some (7, true))⟩,
  ⟨(some 9), .load 1 false (.t 8), (some (7, true))⟩,
  ⟨(some 10), .len 128 (.t 9), (some (7, true))⟩,
  ⟨(some 11), .bin .leq (.t 10) (.c (.int .i64 64)), (some (7, true))⟩,
  ⟨(some 12), .pick (.t 7) (.t 11) (.c (.bool false)), none⟩,
  ⟨(some 2), .mov (.t 12), none⟩]
/-- simulacrum/simulacrumref06.Valid -/
def f9 : IFn := ⟨(.seq (.ops false f9o0) (.seq (.ops false f9o1) .ret)), [.t 2], 13⟩
def f10o0 : List IOper := [
  ⟨(some 0), .mov (.c (.bool false)), none⟩]
def f10o1 : List IOper := [
  ⟨(some 25), .callp 0 35 [(.c (.int .i64 8))], none⟩,
  ⟨(some 24), .mov (.t 25), none⟩,
  ⟨(some 26), .ext (.t 24) 0, none⟩,
  ⟨(some 27), .ext (.t 24) 1, none⟩,
  ⟨(some 1), .new 24 [(.sl 0 0 [])], none⟩,
  ⟨none, .store 1 (.t 1) (.t 26), none⟩,
  ⟨(some 2), .mov (.t 27), none⟩]
def f10o2 : List IOper := [
  ⟨(some 28), .build [(.int .u32 0), (.int .u32 0)] [(0, 1, (.c (.int .u32 256))), (1, 1, (.c (.int .u32 4)))], none⟩,
  ⟨(some 3), .new 27 [(.int .u32 0), (.int .u32 0)], none⟩,
  ⟨none, .store 2 (.t 3) (.t 28), none⟩]
def f10o3 : List IOper := [
  ⟨(some 29), .load 1 true (.t 1), none⟩,
  ⟨(some 30), .load 2 true (.t 3), none⟩,
  ⟨(some 31), .bsl false 1 [(.int .u32 0), (.int .u32 0), (.int .u32 0), (.int .u32 0)] [(0, 1, (.c (.int .u32 512))), (1, 1, (.c (.int .u32 3))), (2, 1, (.c (.int .u32 514))), (3, 1, (.c (.int .u32 1)))], none⟩,
  ⟨(some 32), .callp 0 36 [(.t 29), (.t 30), (.c (.int .i64 1)), (.t 31)], none⟩,
  ⟨(some 33), .load 2 true (.t 3), none⟩,
  ⟨(some 34), .bsl false 1 [(.int .u32 0), (.int .u32 0), (.int .u32 0), (.int .u32 0)] [(0, 1, (.c (.int .u32 600))), (1, 1, (.c (.int .u32 5))), (2, 1, (.c (.int .u32 1))), (3, 1, (.c (.int .u32 1)))], none⟩,
  ⟨(some 35), .callp 0 36 [(.t 32), (.t 33), (.c (.int .i64 2)), (.t 34)], none⟩,
  ⟨none, .store 1 (.t 1) (.t 35), none⟩]
def f10o4 : List IOper := [
  ⟨(some 37), .load 1 true (.t 1), none⟩,
  ⟨(some 38), .load 2 true (.t 3), none⟩,
  ⟨(some 39), .callp 0 14 [(.t 37), (.t 38), (.c (.int .i64 0))], none⟩,
  ⟨(some 36), .mov (.t 39), none⟩,
  ⟨(some 40), .ext (.t 36) 0, none⟩,
  ⟨(some 41), .ext (.t 36) 1, none⟩,
  ⟨(some 4), .mov (.t 40), none⟩,
  ⟨(some 5), .mov (.t 41), none⟩]
def f10o5 : List IOper := [
  ⟨(some 43), .load 1 true (.t 1), none⟩,
  ⟨(some 44), .load 2 true (.t 3), none⟩,
  ⟨(some 45), .callp 0 14 [(.t 43), (.t 44), (.c (.int .i64 2))], none⟩,
  ⟨(some 42), .mov (.t 45), none⟩,
  ⟨(some 46), .ext (.t 42) 0, none⟩,
  ⟨(some 47), .ext (.t 42) 1, none⟩,
  ⟨(some 6), .mov (.t 46), none⟩,
  ⟨(some 7), .mov (.t 47), none⟩]
def f10o6 : List IOper := [
  ⟨(some 49), .load 1 true (.t 1), none⟩,
  ⟨(some 50), .load 2 true (.t 3), none⟩,
  ⟨(some 51), .callp 0 15 [(.t 49), (.t 50), (.c (.int .i64 1))], none⟩,
  ⟨(some 48), .mov (.t 51), none⟩,
  ⟨(some 52), .ext (.t 48) 0, none⟩,
  ⟨(some 53), .ext (.t 48) 1, none⟩,
  ⟨(some 54), .ext (.t 48) 2, none⟩,
  ⟨(some 8), .new 24 [(.sl 0 0 [])], none⟩,
  ⟨none, .store 1 (.t 8) (.t 52), none⟩,
  ⟨(some 9), .mov (.t 53), none⟩,
  ⟨(some 10), .mov (.t 54), none⟩]
def f10o7 : List IOper := [
  ⟨(some 56), .load 1 true (.t 8), none⟩,
  ⟨(some 57), .load 2 true (.t 3), none⟩,
  ⟨(some 58), .callp 0 15 [(.t 56), (.t 57), (.c (.int .i64 1))], none⟩,
  ⟨(some 55), .mov (.t 58), none⟩,
  ⟨(some 59), .ext (.t 55) 0, none⟩,
  ⟨(some 60), .ext (.t 55) 1, none⟩,
  ⟨(some 61), .ext (.t 55) 2, none⟩,
  ⟨(some 11), .new 24 [(.sl 0 0 [])], none⟩,
  ⟨none, .store 1 (.t 11) (.t 59), none⟩,
  ⟨(some 12), .mov (.t 60), none⟩,
  ⟨(some 13), .mov (.t 61), none⟩]
def f10o8 : List IOper := [
  ⟨(some 63), .load 1 true (.t 8), none⟩,
  ⟨(some 64), .mov (.t 9), none⟩,
  ⟨(some 65), .callp 0 26 [(.t 63), (.t 64), (.c (.str [97, 98, 99, 100, 101, 102, 103]))], none⟩,
  ⟨(some 62), .mov (.t 65), none⟩,
  ⟨(some 66), .ext (.t 62) 0, none⟩,
  ⟨(some 67), .ext (.t 62) 1, none⟩,
  ⟨(some 14), .new 24 [(.sl 0 0 [])], none⟩,
  ⟨none, .store 1 (.t 14) (.t 66), none⟩,
  ⟨(some 15), .mov (.t 67), none⟩]
def f10o9 : List IOper := [
  ⟨(some 69), .load 1 true (.t 14), none⟩,
  ⟨(some 70), .callp 0 37 [(.t 69), (.c (.int .i64 598)), (.c (.int .i64 8))], none⟩,
  ⟨(some 68), .mov (.t 70), none⟩,
  ⟨(some 71), .ext (.t 68) 0, none⟩,
  ⟨(some 72), .ext (.t 68) 1, none⟩,
  ⟨(some 16), .mov (.t 71), none⟩,
  ⟨(some 17), .mov (.t 72), none⟩]
def f10o10 : List IOper := [
  ⟨(some 73), .mov (.t 2), none⟩,
  ⟨(some 74), .bin .neq (.t 73) (.c (.int .i64 0)), none⟩,
  ⟨(some 75), .mov (.t 74), none⟩,
  ⟨(some 76), .load 1 true (.t 1), (some (75, false))⟩,
  ⟨(some 77), .load 2 true (.t 3), (some (75, false))⟩,
  ⟨(some 78), .callp 0 11 [(.t 76), (.t 77)], (some (75, false))⟩,
  ⟨(some 79), .bin .neq (.t 78) (.c (.int .i64 0)), (some (75, false))⟩,
  ⟨(some 80), .pick (.t 75) (.c (.bool true)) (.t 79), none⟩,
  ⟨(some 81), .mov (.t 80), none⟩,
  ⟨(some 82), .mov (.t 4), (some (81, false))⟩,
  ⟨(some 83), .bin .neq (.t 82) (.c (.int .i64 1)), (some (81, false))⟩,
  ⟨(some 84), .pick (.t 81) (.c (.bool true)) (.t 83), none⟩,
  ⟨(some 85), .mov (.t 84), none⟩,
  ⟨(some 86), .mov (.t 5), (some (85, false))⟩,
  ⟨(some 87), .un .not (.t 86), (some (85, false))⟩,
  ⟨(some 88), .pick (.t 85) (.c (.bool true)) (.t 87), none⟩,
  ⟨(some 89), .mov (.t 88), none⟩,
  ⟨(some 90), .mov (.t 6), (some (89, false))⟩,
  ⟨(some 91), .bin .neq (.t 90) (.c (.int .i64 2)), (some (89, false))⟩,
  ⟨(some 92), .pick (.t 89) (.c (.bool true)) (.t 91), none⟩,
  ⟨(some 93), .mov (.t 92), none⟩,
  ⟨(some 94), .mov (.t 7), (some (93, false))⟩,
  ⟨(some 95), .un .not (.t 94), (some (93, false))⟩,
  ⟨(some 96), .pick (.t 93) (.c (.bool true)) (.t 95), none⟩,
  ⟨(some 97), .mov (.t 96), none⟩,
  ⟨(some 98), .mov (.t 10), (some (97, false))⟩,
  ⟨(some 99), .bin .neq (.t 98) (.c (.int .i64 0)), (some (97, false))⟩,
  ⟨(some 100), .pick (.t 97) (.c (.bool true)) (.t 99), none⟩,
  ⟨(some 101), .mov (.t 100), none⟩,
  ⟨(some 102), .mov (.t 13), (some (101, false))⟩,
  ⟨(some 103), .bin .neq (.t 102) (.c (.int .i64 165)), (some (101, false))⟩,
  ⟨(some 104), .pick (.t 101) (.c (.bool true)) (.t 103), none⟩,
  ⟨(some 105), .mov (.t 104), none⟩,
  ⟨(some 106), .load 1 true (.t 8), (some (105, false))⟩,
  ⟨(some 107), .load 1 true (.t 11), (some (105, false))⟩,
  ⟨(some 108), .callp 0 28 [(.t 106), (.t 107)], (some (105, false))⟩,
  ⟨(some 109), .len 1 (.t 108), (some (105, false))⟩,
  ⟨(some 110), .bin .neq (.t 109) (.c (.int .i64 0)), (some (105, false))⟩,
  ⟨(some 111), .pick (.t 105) (.c (.bool true)) (.t 110), none⟩,
  ⟨(some 112), .mov (.t 111), none⟩,
  ⟨(some 113), .mov (.t 15), (some (112, false))⟩,
  ⟨(some 114), .bin .neq (.t 113) (.c (.int .i64 5)), (some (112, false))⟩,
  ⟨(some 115), .pick (.t 112) (.c (.bool true)) (.t 114), none⟩,
  ⟨(some 116), .mov (.t 115), none⟩,
  ⟨(some 117), .mov (.t 9), (some (116, false))⟩,
  ⟨(some 118), .callp 0 32 [(.t 117)], (some (116, false))⟩,
  ⟨(some 119), .bin .neq (.t 118) (.c (.int .i64 5)), (some (116, false))⟩,
  ⟨(some 120), .pick (.t 116) (.c (.bool true)) (.t 119), none⟩,
  ⟨(some 121), .mov (.t 120), none⟩,
  ⟨(some 122), .mov (.t 16), (some (121, false))⟩,
  ⟨(some 123), .bin .neq (.t 122) (.c (.str [0, 0, 97, 98, 99, 100, 101, 0])), (some (121, false))⟩,
  ⟨(some 124), .pick (.t 121) (.c (.bool true)) (.t 123), none⟩]
def f10o11 : List IOper := [
  ⟨(some 0), .mov (.c (.bool false)), none⟩]
def f10o12 : List IOper := [
  ⟨(some 126), .load 1 true (.t 1), none⟩,
  ⟨(some 127), .load 2 true (.t 3), none⟩,
  ⟨(some 128), .bsl false 1 [(.int .u32 0), (.int .u32 0), (.int .u32 0), (.int .u32 0)] [(0, 1, (.c (.int .u32 600))), (1, 1, (.c (.int .u32 5))), (2, 1, (.c (.int .u32 259))), (3, 1, (.c (.int .u32 1)))], none⟩,
  ⟨(some 129), .callp 0 36 [(.t 126), (.t 127), (.c (.int .i64 2)), (.t 128)], none⟩,
  ⟨(some 130), .load 2 true (.t 3), none⟩,
  ⟨(some 131), .callp 0 15 [(.t 129), (.t 130), (.c (.int .i64 1))], none⟩,
  ⟨(some 125), .mov (.t 131), none⟩,
  ⟨(some 132), .ext (.t 125) 0, none⟩,
  ⟨(some 133), .ext (.t 125) 1, none⟩,
  ⟨(some 134), .ext (.t 125) 2, none⟩,
  ⟨(some 18), .new 24 [(.sl 0 0 [])], none⟩,
  ⟨none, .store 1 (.t 18) (.t 132), none⟩,
  ⟨(some 19), .mov (.t 133), none⟩,
  ⟨(some 20), .mov (.t 134), none⟩]
def f10o13 : List IOper := [
  ⟨(some 136), .load 1 true (.t 1), none⟩,
  ⟨(some 137), .load 2 true (.t 3), none⟩,
  ⟨(some 138), .bsl false 1 [(.int .u32 0), (.int .u32 0), (.int .u32 0), (.int .u32 0)] [(0, 1, (.c (.int .u32 1020))), (1, 1, (.c (.int .u32 5))), (2, 1, (.c (.int .u32 1))), (3, 1, (.c (.int .u32 1)))], none⟩,
  ⟨(some 139), .callp 0 36 [(.t 136), (.t 137), (.c (.int .i64 2)), (.t 138)], none⟩,
  ⟨(some 140), .load 2 true (.t 3), none⟩,
  ⟨(some 141), .callp 0 15 [(.t 139), (.t 140), (.c (.int .i64 2))], none⟩,
  ⟨(some 135), .mov (.t 141), none⟩,
  ⟨(some 142), .ext (.t 135) 0, none⟩,
  ⟨(some 143), .ext (.t 135) 1, none⟩,
  ⟨(some 144), .ext (.t 135) 2, none⟩,
  ⟨(some 21), .new 24 [(.sl 0 0 [])], none⟩,
  ⟨none, .store 1 (.t 21) (.t 142), none⟩,
  ⟨(some 22), .mov (.t 143), none⟩,
  ⟨(some 23), .mov (.t 144), none⟩]
def f10o14 : List IOper := [
  ⟨(some 145), .mov (.t 9), none⟩,
  ⟨(some 146), .build [(.int .i64 0), (.int .i64 0), (.int .i64 0), (.bool false)] [(0, 1, (.c (.int .i64 1))), (1, 1, (.c (.int .i64 512))), (2, 1, (.c (.int .i64 3)))], none⟩,
  ⟨(some 147), .build [(.int .i64 0), (.int .i64 0), (.int .i64 0), (.bool false)] [(0, 1, (.c (.int .i64 2))), (1, 1, (.c (.int .i64 600))), (2, 1, (.c (.int .i64 5))), (3, 1, (.c (.bool true)))], none⟩,
  ⟨(some 148), .bsl false 4 [(.int .i64 0), (.int .i64 0), (.int .i64 0), (.bool false), (.int .i64 0), (.int .i64 0), (.int .i64 0), (.bool false)] [(0, 4, (.t 146)), (4, 4, (.t 147))], none⟩,
  ⟨(some 149), .callp 0 18 [(.t 145), (.t 148)], none⟩,
  ⟨(some 150), .mov (.t 149), none⟩,
  ⟨(some 151), .load 1 true (.t 8), (some (150, true))⟩,
  ⟨(some 152), .load 2 true (.t 3), (some (150, true))⟩,
  ⟨(some 153), .callp 0 27 [(.t 151), (.t 152), (.c (.int .i64 1))], (some (150, true))⟩,
  ⟨(some 154), .bin .eql (.t 153) (.c (.int .u32 2)), (some (150, true))⟩,
  ⟨(some 155), .pick (.t 150) (.t 154) (.c (.bool false)), none⟩,
  ⟨(some 156), .mov (.t 155), none⟩,
  ⟨(some 157), .load 1 true (.t 8), (some (156, true))⟩,
  ⟨(some 158), .load 2 true (.t 3), (some (156, true))⟩,
  ⟨(some 159), .callp 0 27 [(.t 157), (.t 158), (.c (.int .i64 2))], (some (156, true))⟩,
  ⟨(some 160), .bin .eql (.t 159) (.c (.int .u32 2)), (some (156, true))⟩,
  ⟨(some 161), .pick (.t 156) (.t 160) (.c (.bool false)), none⟩,
  ⟨(some 162), .mov (.t 161), none⟩,
  ⟨(some 163), .mov (.t 20), (some (162, true))⟩,
  ⟨(some 164), .bin .eql (.t 163) (.c (.int .i64 163)), (some (162, true))⟩,
  ⟨(some 165), .pick (.t 162) (.t 164) (.c (.bool false)), none⟩,
  ⟨(some 166), .mov (.t 165), none⟩,
  ⟨(some 167), .load 1 true (.t 18), (some (166, true))⟩,
  ⟨(some 168), .load 2 true (.t 3), (some (166, true))⟩,
  ⟨(some 169), .callp 0 27 [(.t 167), (.t 168), (.c (.int .i64 1))], (some (166, true))⟩,
  ⟨(some 170), .bin .eql (.t 169) (.c (.int .u32 7)), (some (166, true))⟩,
  ⟨(some 171), .pick (.t 166) (.t 170) (.c (.bool false)), none⟩,
  ⟨(some 172), .mov (.t 171), none⟩,
  ⟨(some 173), .mov (.t 23), (some (172, true))⟩,
  ⟨(some 174), .bin .eql (.t 173) (.c (.int .i64 161)), (some (172, true))⟩,
  ⟨(some 175), .pick (.t 172) (.t 174) (.c (.bool false)), none⟩,
  ⟨(some 176), .mov (.t 175), none⟩,
  ⟨(some 177), .load 1 true (.t 21), (some (176, true))⟩,
  ⟨(some 178), .load 2 true (.t 3), (some (176, true))⟩,
  ⟨(some 179), .callp 0 27 [(.t 177), (.t 178), (.c (.int .i64 2))], (some (176, true))⟩,
  ⟨(some 180), .bin .eql (.t 179) (.c (.int .u32 5)), (some (176, true))⟩,
  ⟨(some 181), .pick (.t 176) (.t 180) (.c (.bool false)), none⟩,
  ⟨(some 182), .mov (.t 181), none⟩,
  ⟨(some 183), .load 1 true (.t 1), (some (182, true))⟩,
  ⟨(some 184), .build [(.int .u32 0), (.int .u32 0)] [(0, 1, (.c (.int .u32 256))), (1, 1, (.c (.int .u32 3)))], (some (182, true))⟩,
  ⟨(some 185), .callp 0 11 [(.t 183), (.t 184)], (some (182, true))⟩,
  ⟨(some 186), .bin .eql (.t 185) (.c (.int .i64 160)), (some (182, true))⟩,
  ⟨(some 187), .pick (.t 182) (.t 186) (.c (.bool false)), none⟩,
  ⟨(some 0), .mov (.t 187), none⟩]
/-- simulacrum/simulacrumlaw16.sanity -/
def f10 : IFn := ⟨(.seq (.ops false f10o0) (.seq (.ops false f10o1) (.seq (.ops false f10o2) (.seq (.ops true f10o3) (.seq (.ops false f10o4) (.seq (.ops false f10o5) (.seq (.ops false f10o6) (.seq (.ops false f10o7) (.seq (.ops false f10o8) (.seq (.ops false f10o9) (.seq (.seq (.ops false f10o10) (.cond (.t 124) (.seq (.ops false f10o11) .ret) .skip)) (.seq (.ops true f10o12) (.seq (.ops true f10o13) (.seq (.ops false f10o14) .ret)))))))))))))), [.t 0], 188⟩
def f11o0 : List IOper := [
  ⟨(some 2), .box 24 (.t 0), none⟩,
  ⟨(some 3), .box 27 (.t 1), none⟩,
  ⟨(some 4), .mov (.c (.int .i64 0)), none⟩]
def f11o1 : List IOper := [
  ⟨(some 5), .fadd 1 (.t 3), none⟩,
  ⟨(some 6), .load 1 false (.t 5), none⟩]
def f11o2 : List IOper := [
  ⟨(some 8), .bin .eql (.t 6) (.c (.int .u32 1)), none⟩,
  ⟨(some 7), .mov (.t 8), none⟩]
def f11o3 : List IOper := [
  ⟨(some 9), .bin .eql (.t 6) (.c (.int .u32 2)), none⟩,
  ⟨(some 7), .mov (.t 9), none⟩]
def f11o4 : List IOper := [
  ⟨(some 10), .bin .eql (.t 6) (.c (.int .u32 4)), none⟩,
  ⟨(some 7), .mov (.t 10), none⟩]
def f11o5 : List IOper := [
  ⟨(some 11), .bin .eql (.t 6) (.c (.int .u32 8)), none⟩,
  ⟨(some 7), .mov (.t 11), none⟩]
def f11o6 : List IOper := [
  ⟨(some 12), .fadd 0 (.t 3), none⟩,
  ⟨(some 13), .load 1 false (.t 12), none⟩,
  ⟨(some 14), .bin .rem (.t 13) (.c (.int .u32 16)), none⟩,
  ⟨(some 15), .bin .eql (.t 14) (.c (.int .u32 0)), none⟩,
  ⟨(some 16), .mov (.t 15), none⟩,
  ⟨(some 17), .fadd 0 (.t 3), (some (16, true))⟩,
  ⟨(some 18), .load 1 false (.t 17), (some (16, true))⟩,
  ⟨(some 19), .conv .i64 (.t 18), (some (16, true))⟩,
  ⟨(some 20), .fadd 1 (.t 3), (some (16, true))⟩,
  ⟨(some 21), .load 1 false (.t 20), (some (16, true))⟩,
  ⟨(some 22), .conv .i64 (.t 21), (some (16, true))⟩,
  ⟨(some 23), .bin .mul (.c (.int .i64 16)) (.t 22), (some (16, true))⟩,
  ⟨(some 24), .bin .add (.t 19) (.t 23), (some (16, true))⟩,
  ⟨(some 25), .load 1 true (.t 2), (some (16, true))⟩,
  ⟨(some 26), .callp 0 34 [(.t 25)], (some (16, true))⟩,
  ⟨(some 27), .bin .leq (.t 24) (.t 26), (some (16, true))⟩,
  ⟨(some 28), .pick (.t 16) (.t 27) (.c (.bool false)), none⟩]
def f11o7 : List IOper := [
  ⟨(some 4), .mov (.c (.int .i64 0)), none⟩]
def f11o8 : List IOper := [
  ⟨(some 4), .mov (.c (.int .i64 160)), none⟩]
/-- simulacrum/ring.Check -/
def f11 : IFn := ⟨(.seq (.ops false f11o0) (.seq (.seq (.ops false f11o1) (.block 0 (.seq (.seq (.ops false f11o2) (.cond (.t 7) .skip (.seq (.ops false f11o3) (.cond (.t 7) .skip (.seq (.ops false f11o4) (.cond (.t 7) .skip (.ops false f11o5))))))) (.cond (.t 7) (.seq (.ops true f11o6) (.cond (.t 28) (.seq (.ops false f11o7) .ret) .skip)) .skip)))) (.seq (.ops false f11o8) .ret))), [.t 4], 29⟩
def f12o0 : List IOper := [
  ⟨(some 2), .box 24 (.t 0), none⟩,
  ⟨(some 3), .box 27 (.t 1), none⟩,
  ⟨(some 4), .mov (.c (.int .i64 0)), none⟩]
def f12o1 : List IOper := [
  ⟨(some 5), .fadd 1 (.t 3), none⟩,
  ⟨(some 6), .load 1 false (.t 5), none⟩,
  ⟨(some 7), .bin .neq (.t 6) (.c (.int .u32 1)), none⟩,
  ⟨(some 8), .mov (.t 7), none⟩,
  ⟨(some 9), .fadd 1 (.t 3), (some (8, true))⟩,
  ⟨(some 10), .load 1 false (.t 9), (some (8, true))⟩,
  ⟨(some 11), .bin .neq (.t 10) (.c (.int .u32 2)), (some (8, true))⟩,
  ⟨(some 12), .pick (.t 8) (.t 11) (.c (.bool false)), none⟩,
  ⟨(some 13), .mov (.t 12), none⟩,
  ⟨(some 14), .fadd 1 (.t 3), (some (13, true))⟩,
  ⟨(some 15), .load 1 false (.t 14), (some (13, true))⟩,
  ⟨(some 16), .bin .neq (.t 15) (.c (.int .u32 4)), (some (13, true))⟩,
  ⟨(some 17), .pick (.t 13) (.t 16) (.c (.bool false)), none⟩,
  ⟨(some 18), .mov (.t 17), none⟩,
  ⟨(some 19), .fadd 1 (.t 3), (some (18, true))⟩,
  ⟨(some 20), .load 1 false (.t 19), (some (18, true))⟩,
  ⟨(some 21), .bin .neq (.t 20) (.c (.int .u32 8)), (some (18, true))⟩,
  ⟨(some 22), .pick (.t 18) (.t 21) (.c (.bool false)), none⟩,
  ⟨(some 23), .mov (.t 22), none⟩,
  ⟨(some 24), .fadd 0 (.t 3), (some (23, false))⟩,
  ⟨(some 25), .load 1 false (.t 24), (some (23, false))⟩,
  ⟨(some 26), .bin .rem (.t 25) (.c (.int .u32 16)), (some (23, false))⟩,
  ⟨(some 27), .bin .neq (.t 26) (.c (.int .u32 0)), (some (23, false))⟩,
  ⟨(some 28), .pick (.t 23) (.c (.bool true)) (.t 27), none⟩,
  ⟨(some 29), .mov (.t 28), none⟩,
  ⟨(some 30), .fadd 0 (.t 3), (some (29, false))⟩,
  ⟨(some 31), .load 1 false (.t 30), (some (29, false))⟩,
  ⟨(some 32), .conv .i64 (.t 31), (some (29, false))⟩,
  ⟨(some 33), .fadd 1 (.t 3), (some (29, false))⟩,
  ⟨(some 34), .load 1 false (.t 33), (some (29, false))⟩,
  ⟨(some 35), .conv .i64 (.t 34), (some (29, false))⟩,
  ⟨(some 36), .bin .mul (.c (.int .i64 16)) (.t 35), (some (29, false))⟩,
  ⟨(some 37), .bin .add (.t 32) (.t 36), (some (29, false))⟩,
  ⟨(some 38), .load 1 true (.t 2), (some (29, false))⟩,
  ⟨(some 39), .callp 0 38 [(.t 38)], (some (29, false))⟩,
  ⟨(some 40), .bin .gtr (.t 37) (.t 39), (some (29, false))⟩,
  ⟨(some 41), .pick (.t 29) (.c (.bool true)) (.t 40), none⟩]
def f12o2 : List IOper := [
  ⟨(some 4), .mov (.c (.int .i64 160)), none⟩]
def f12o3 : List IOper := [
  ⟨(some 4), .mov (.c (.int .i64 0)), none⟩]
/-- simulacrum/simulacrumref16.Check -/
def f12 : IFn := ⟨(.seq (.ops false f12o0) (.seq (.seq (.ops true f12o1) (.cond (.t 41) (.seq (.ops false f12o2) .ret) .skip)) (.seq (.ops false f12o3) .ret))), [.t 4], 42⟩
def f13o0 : List IOper := [
  ⟨(some 2), .box 24 (.t 0), none⟩,
  ⟨(some 3), .box 27 (.t 1), none⟩,
  ⟨(some 4), .mov (.c (.bool false)), none⟩]
def f13o1 : List IOper := [
  ⟨(some 5), .load 1 true (.t 2), none⟩,
  ⟨(some 6), .callp 0 9 [(.t 5)], none⟩,
  ⟨(some 7), .mov (.t 6), none⟩,
  ⟨(some 8), .load 1 true (.t 2), (some (7, true))⟩,
  ⟨(some 9), .load 2 true (.t 3), (some (7, true))⟩,
  ⟨(some 10), .callp 0 12 [(.t 8), (.t 9)], (some (7, true))⟩,
  ⟨(some 11), .bin .eql (.t 10) (.c (.int .i64 0)), (some (7, true))⟩,
  ⟨(some 12), .pick (.t 7) (.t 11) (.c (.bool false)), none⟩,
  ⟨(some 4), .mov (.t 12), none⟩]
/-- simulacrum/simulacrumlaw16.there -/
def f13 : IFn := ⟨(.seq (.ops false f13o0) (.seq (.ops false f13o1) .ret)), [.t 4], 13⟩
def f14o0 : List IOper := [
  ⟨(some 3), .box 24 (.t 0), none⟩,
  ⟨(some 4), .box 27 (.t 1), none⟩,
  ⟨(some 6), .mov (.c (.int .i64 0)), none⟩,
  ⟨(some 7), .mov (.c (.bool false)), none⟩]
def f14o1 : List IOper := [
  ⟨(some 10), .fadd 1 (.t 4), none⟩,
  ⟨(some 11), .load 1 false (.t 10), none⟩,
  ⟨(some 12), .conv .i64 (.t 11), none⟩,
  ⟨(some 13), .mov (.c (.int .i64 0)), none⟩]
def f14o2 : List IOper := [
  ⟨(some 14), .bin .lss (.t 13) (.t 12), none⟩]
def f14o3 : List IOper := [
  ⟨(some 15), .mov (.t 13), none⟩,
  ⟨(some 8), .mov (.t 15), none⟩]
def f14o4 : List IOper := [
  ⟨(some 16), .mov (.t 2), none⟩,
  ⟨(some 17), .mov (.t 8), none⟩,
  ⟨(some 18), .bin .add (.t 16) (.t 17), none⟩,
  ⟨(some 19), .fadd 1 (.t 4), none⟩,
  ⟨(some 20), .load 1 false (.t 19), none⟩,
  ⟨(some 21), .conv .i64 (.t 20), none⟩,
  ⟨(some 22), .bin .rem (.t 18) (.t 21), none⟩,
  ⟨(some 9), .mov (.t 22), none⟩]
def f14o5 : List IOper := [
  ⟨(some 23), .load 1 true (.t 3), none⟩,
  ⟨(some 24), .load 2 true (.t 4), none⟩,
  ⟨(some 25), .mov (.t 9), none⟩,
  ⟨(some 26), .callp 0 39 [(.t 23), (.t 24), (.t 25)], none⟩,
  ⟨(some 27), .fld 5 1 false (.t 26), none⟩,
  ⟨(some 28), .bin .eql (.t 27) (.c (.int .u32 1)), none⟩]
def f14o6 : List IOper := [
  ⟨(some 29), .mov (.t 9), none⟩,
  ⟨(some 6), .mov (.t 29), none⟩,
  ⟨(some 7), .mov (.c (.bool true)), none⟩]
def f14o7 : List IOper := [
  ⟨(some 30), .bin .add (.t 13) (.c (.int .i64 1)), none⟩,
  ⟨(some 13), .mov (.t 30), none⟩]
def f14l8 : IC := (.seq (.ops false f14o2) (.seq (.cond (.t 14) .skip (.exit 0)) (.seq (.block 1 (.seq (.ops false f14o3) (.seq (.ops false f14o4) (.seq (.ops false f14o5) (.cond (.t 28) (.seq (.ops false f14o6) .ret) .skip))))) (.ops false f14o7))))
def f14o9 : List IOper := [
  ⟨(some 6), .mov (.c (.int .i64 0)), none⟩,
  ⟨(some 7), .mov (.c (.bool false)), none⟩]
/-- simulacrum/ring.First -/
def f14 : IFn := ⟨(.seq (.ops false f14o0) (.seq (.seq (.ops false f14o1) (.block 0 (.loop f14l8))) (.seq (.ops false f14o9) .ret))), [.t 6, .t 7], 31⟩
def f15o0 : List IOper := [
  ⟨(some 3), .box 24 (.t 0), none⟩,
  ⟨(some 4), .box 27 (.t 1), none⟩,
  ⟨(some 6), .new 24 [(.sl 0 0 [])], none⟩,
  ⟨(some 7), .mov (.c (.sl 0 0 [])), none⟩,
  ⟨(some 8), .mov (.c (.int .i64 0)), none⟩]
def f15o1 : List IOper := [
  ⟨(some 9), .mov (.c (.sl 0 0 [])), none⟩]
def f15o2 : List IOper := [
  ⟨(some 17), .mks false 1 8 [(.int .i64 0)] (.c (.int .i64 0)) (.c (.int .i64 4)), none⟩,
  ⟨(some 10), .mov (.t 17), none⟩]
def f15o3 : List IOper := [
  ⟨(some 18), .mov (.t 2), none⟩,
  ⟨(some 11), .mov (.c (.bool false)), none⟩,
  ⟨(some 12), .mov (.t 18), none⟩,
  ⟨(some 13), .mov (.c (.int .i64 0)), none⟩]
def f15o4 : List IOper := [
  ⟨(some 19), .load 1 true (.t 3), none⟩,
  ⟨(some 20), .load 2 true (.t 4), none⟩,
  ⟨(some 21), .mov (.t 12), none⟩,
  ⟨(some 22), .callp 0 39 [(.t 19), (.t 20), (.t 21)], none⟩,
  ⟨(some 14), .new 72 [(.int .i64 0), (.int .i64 0), (.int .i64 0), (.bool false), (.int .u32 0), (.int .u32 0)], none⟩,
  ⟨none, .store 6 (.t 14) (.t 22), none⟩]
def f15o5 : List IOper := [
  ⟨(some 23), .mov (.t 10), none⟩,
  ⟨(some 24), .len 1 (.t 23), none⟩,
  ⟨(some 25), .mov (.c (.int .i64 0)), none⟩]
def f15o6 : List IOper := [
  ⟨(some 26), .bin .lss (.t 25) (.t 24), none⟩]
def f15o7 : List IOper := [
  ⟨(some 27), .iaS 1 (.t 23) (.t 25), none⟩,
  ⟨(some 28), .load 1 false (.t 27), none⟩,
  ⟨(some 16), .mov (.t 28), none⟩]
def f15o8 : List IOper := [
  ⟨(some 29), .mov (.t 16), none⟩,
  ⟨(some 30), .mov (.t 12), none⟩,
  ⟨(some 31), .bin .eql (.t 29) (.t 30), none⟩]
def f15o9 : List IOper := [
  ⟨(some 13), .mov (.c (.int .i64 163)), none⟩]
def f15o10 : List IOper := [
  ⟨(some 32), .bin .add (.t 25) (.c (.int .i64 1)), none⟩,
  ⟨(some 25), .mov (.t 32), none⟩]
def f15l11 : IC := (.seq (.ops false f15o6) (.seq (.cond (.t 26) .skip (.exit 2)) (.seq (.block 3 (.seq (.ops false f15o7) (.seq (.ops false f15o8) (.cond (.t 31) (.seq (.ops false f15o9) (.exit 0)) .skip)))) (.ops false f15o10))))
def f15o12 : List IOper := [
  ⟨(some 34), .mov (.t 10), none⟩,
  ⟨(some 35), .len 1 (.t 34), none⟩,
  ⟨(some 36), .bin .eql (.t 35) (.c (.int .i64 4)), none⟩,
  ⟨(some 33), .mov (.t 36), none⟩]
def f15o13 : List IOper := [
  ⟨(some 13), .mov (.c (.int .i64 163)), none⟩]
def f15o14 : List IOper := [
  ⟨(some 38), .fadd 5 (.t 14), none⟩,
  ⟨(some 39), .load 1 false (.t 38), none⟩,
  ⟨(some 40), .bin .neq (.t 39) (.c (.int .u32 1)), none⟩,
  ⟨(some 37), .mov (.t 40), none⟩]
def f15o15 : List IOper := [
  ⟨(some 13), .mov (.c (.int .i64 165)), none⟩]
def f15o16 : List IOper := [
  ⟨(some 42), .fadd 0 (.t 14), none⟩,
  ⟨(some 43), .fadd 2 (.t 42), none⟩,
  ⟨(some 44), .load 1 false (.t 43), none⟩,
  ⟨(some 45), .bin .lss (.t 44) (.c (.int .i64 1)), none⟩,
  ⟨(some 46), .mov (.t 45), none⟩,
  ⟨(some 47), .fadd 0 (.t 14), (some (46, false))⟩,
  ⟨(some 48), .fadd 2 (.t 47), (some (46, false))⟩,
  ⟨(some 49), .load 1 false (.t 48), (some (46, false))⟩,
  ⟨(some 50), .bin .gtr (.t 49) (.c (.int .i64 512)), (some (46, false))⟩,
  ⟨(some 51), .pick (.t 46) (.c (.bool true)) (.t 50), none⟩,
  ⟨(some 52), .mov (.t 51), none⟩,
  ⟨(some 53), .fadd 0 (.t 14), (some (52, false))⟩,
  ⟨(some 54), .fadd 1 (.t 53), (some (52, false))⟩,
  ⟨(some 55), .load 1 false (.t 54), (some (52, false))⟩,
  ⟨(some 56), .fadd 0 (.t 14), (some (52, false))⟩,
  ⟨(some 57), .fadd 2 (.t 56), (some (52, false))⟩,
  ⟨(some 58), .load 1 false (.t 57), (some (52, false))⟩,
  ⟨(some 59), .bin .add (.t 55) (.t 58), (some (52, false))⟩,
  ⟨(some 60), .load 1 true (.t 3), (some (52, false))⟩,
  ⟨(some 61), .callp 0 34 [(.t 60)], (some (52, false))⟩,
  ⟨(some 62), .bin .gtr (.t 59) (.t 61), (some (52, false))⟩,
  ⟨(some 63), .pick (.t 52) (.c (.bool true)) (.t 62), none⟩,
  ⟨(some 41), .mov (.t 63), none⟩]
def f15o17 : List IOper := [
  ⟨(some 13), .mov (.c (.int .i64 161)), none⟩]
def f15o18 : List IOper := [
  ⟨(some 65), .load 6 true (.t 14), none⟩,
  ⟨(some 66), .callp 0 40 [(.t 65)], none⟩,
  ⟨(some 67), .un .not (.t 66), none⟩,
  ⟨(some 68), .mov (.t 67), none⟩,
  ⟨(some 69), .mov (.t 11), (some (68, false))⟩,
  ⟨(some 70), .mov (.t 69), (some (68, false))⟩,
  ⟨(some 71), .fadd 0 (.t 14), (some (70, true))⟩,
  ⟨(some 72), .fadd 3 (.t 71), (some (70, true))⟩,
  ⟨(some 73), .load 1 false (.t 72), (some (70, true))⟩,
  ⟨(some 74), .un .not (.t 73), (some (70, true))⟩,
  ⟨(some 75), .pick (.t 70) (.t 74) (.c (.bool false)), (some (68, false))⟩,
  ⟨(some 76), .pick (.t 68) (.c (.bool true)) (.t 75), none⟩,
  ⟨(some 64), .mov (.t 76), none⟩]
def f15o19 : List IOper := [
  ⟨(some 13), .mov (.c (.int .i64 164)), none⟩]
def f15o20 : List IOper := [
  ⟨(some 78), .load 6 true (.t 14), none⟩,
  ⟨(some 79), .callp 0 41 [(.t 78)], none⟩,
  ⟨(some 80), .mov (.t 79), none⟩,
  ⟨(some 81), .load 6 true (.t 14), (some (80, true))⟩,
  ⟨(some 82), .callp 0 42 [(.t 81)], (some (80, true))⟩,
  ⟨(some 83), .fadd 1 (.t 4), (some (80, true))⟩,
  ⟨(some 84), .load 1 false (.t 83), (some (80, true))⟩,
  ⟨(some 85), .conv .i64 (.t 84), (some (80, true))⟩,
  ⟨(some 86), .bin .geq (.t 82) (.t 85), (some (80, true))⟩,
  ⟨(some 87), .pick (.t 80) (.t 86) (.c (.bool false)), none⟩,
  ⟨(some 77), .mov (.t 87), none⟩]
def f15o21 : List IOper := [
  ⟨(some 13), .mov (.c (.int .i64 162)), none⟩]
def f15o22 : List IOper := [
  ⟨(some 88), .mov (.t 13), none⟩,
  ⟨(some 89), .bin .neq (.t 88) (.c (.int .i64 0)), none⟩]
def f15o23 : List IOper := [
  ⟨(some 90), .mov (.t 10), none⟩,
  ⟨(some 91), .mov (.t 12), none⟩,
  ⟨(some 92), .bsl false 1 [(.int .i64 0)] [(0, 1, (.t 91))], none⟩,
  ⟨(some 93), .app 1 8 (.t 90) (.t 92), none⟩,
  ⟨(some 94), .mov (.t 9), none⟩,
  ⟨(some 95), .fadd 0 (.t 14), none⟩,
  ⟨(some 96), .load 4 true (.t 95), none⟩,
  ⟨(some 97), .bsl false 4 [(.int .i64 0), (.int .i64 0), (.int .i64 0), (.bool false)] [(0, 4, (.t 96))], none⟩,
  ⟨(some 98), .app 4 32 (.t 94) (.t 97), none⟩,
  ⟨(some 99), .mov (.t 11), none⟩,
  ⟨(some 100), .mov (.t 99), none⟩,
  ⟨(some 101), .fadd 0 (.t 14), (some (100, false))⟩,
  ⟨(some 102), .fadd 3 (.t 101), (some (100, false))⟩,
  ⟨(some 103), .load 1 false (.t 102), (some (100, false))⟩,
  ⟨(some 104), .pick (.t 100) (.c (.bool true)) (.t 103), none⟩,
  ⟨(some 10), .mov (.t 93), none⟩,
  ⟨(some 9), .mov (.t 98), none⟩,
  ⟨(some 11), .mov (.t 104), none⟩]
def f15o24 : List IOper := [
  ⟨(some 105), .load 6 true (.t 14), none⟩,
  ⟨(some 106), .callp 0 41 [(.t 105)], none⟩,
  ⟨(some 107), .un .not (.t 106), none⟩]
def f15o25 : List IOper := [
  ⟨(some 108), .load 1 true (.t 3), none⟩,
  ⟨(some 109), .load 2 true (.t 4), none⟩,
  ⟨(some 110), .mov (.t 10), none⟩,
  ⟨(some 111), .callp 0 43 [(.t 108), (.t 109), (.c (.int .i64 2)), (.t 110)], none⟩,
  ⟨(some 112), .mov (.t 9), none⟩,
  ⟨none, .store 1 (.t 6) (.t 111), none⟩,
  ⟨(some 7), .mov (.t 112), none⟩,
  ⟨(some 8), .mov (.c (.int .i64 0)), none⟩]
def f15o26 : List IOper := [
  ⟨(some 113), .load 6 true (.t 14), none⟩,
  ⟨(some 114), .callp 0 42 [(.t 113)], none⟩,
  ⟨(some 12), .mov (.t 114), none⟩]
def f15l27 : IC := (.block 1 (.seq (.ops false f15o4) (.seq (.seq (.ops false f15o5) (.block 2 (.loop f15l11))) (.seq (.block 4 (.seq (.ops false f15o12) (.cond (.t 33) (.ops false f15o13) (.seq (.ops false f15o14) (.cond (.t 37) (.ops false f15o15) (.seq (.ops true f15o16) (.cond (.t 41) (.ops false f15o17) (.seq (.ops false f15o18) (.cond (.t 64) (.ops false f15o19) (.seq (.ops true f15o20) (.cond (.t 77) (.ops false f15o21) .skip))))))))))) (.seq (.seq (.ops false f15o22) (.cond (.t 89) (.exit 0) .skip)) (.seq (.ops true f15o23) (.seq (.seq (.ops false f15o24) (.cond (.t 107) (.seq (.ops false f15o25) .ret) .skip)) (.ops false f15o26))))))))
def f15o28 : List IOper := [
  ⟨(some 115), .load 1 true (.t 3), none⟩,
  ⟨(some 116), .load 2 true (.t 4), none⟩,
  ⟨(some 117), .mov (.t 2), none⟩,
  ⟨(some 118), .callp 0 39 [(.t 115), (.t 116), (.t 117)], none⟩,
  ⟨(some 119), .fld 5 1 false (.t 118), none⟩,
  ⟨(some 120), .bin .eql (.t 119) (.c (.int .u32 1)), none⟩]
def f15o29 : List IOper := [
  ⟨(some 121), .load 1 true (.t 3), none⟩,
  ⟨(some 122), .load 2 true (.t 4), none⟩,
  ⟨(some 123), .mov (.t 2), none⟩,
  ⟨(some 124), .mov (.t 13), none⟩,
  ⟨(some 125), .callp 0 22 [(.t 121), (.t 122), (.t 123), (.t 124)], none⟩,
  ⟨none, .store 1 (.t 3) (.t 125), none⟩]
def f15o30 : List IOper := [
  ⟨(some 126), .load 1 true (.t 3), none⟩,
  ⟨(some 127), .mov (.t 13), none⟩,
  ⟨none, .store 1 (.t 6) (.t 126), none⟩,
  ⟨(some 7), .mov (.c (.sl 0 0 [])), none⟩,
  ⟨(some 8), .mov (.t 127), none⟩]
/-- simulacrum/ring.Take -/
def f15 : IFn := ⟨(.seq (.ops false f15o0) (.seq (.ops false f15o1) (.seq (.ops false f15o2) (.seq (.ops false f15o3) (.seq .skip (.seq (.block 0 (.loop f15l27)) (.seq (.seq (.ops false f15o28) (.cond (.t 120) (.ops false f15o29) .skip)) (.seq (.ops false f15o30) .ret)))))))), [.cell 6 1 true, .t 7, .t 8], 128⟩
def f16o0 : List IOper := [
  ⟨(some 3), .box 24 (.t 0), none⟩,
  ⟨(some 4), .box 27 (.t 1), none⟩,
  ⟨(some 6), .new 39 [(.int .i64 0), (.bool false)], none⟩]
def f16o1 : List IOper := [
  ⟨(some 9), .fadd 1 (.t 4), none⟩,
  ⟨(some 10), .load 1 false (.t 9), none⟩,
  ⟨(some 11), .conv .i64 (.t 10), none⟩,
  ⟨(some 7), .mov (.t 11), none⟩]
def f16o2 : List IOper := [
  ⟨(some 8), .mov (.c (.int .i64 0)), none⟩]
def f16o3 : List IOper := [
  ⟨(some 12), .mov (.t 8), none⟩,
  ⟨(some 13), .mov (.t 7), none⟩,
  ⟨(some 14), .bin .lss (.t 12) (.t 13), none⟩]
def f16o4 : List IOper := [
  ⟨(some 17), .load 1 true (.t 3), none⟩,
  ⟨(some 18), .load 2 true (.t 4), none⟩,
  ⟨(some 19), .mov (.t 2), none⟩,
  ⟨(some 20), .mov (.t 8), none⟩,
  ⟨(some 21), .bin .add (.t 19) (.t 20), none⟩,
  ⟨(some 22), .mov (.t 7), none⟩,
  ⟨(some 23), .bin .rem (.t 21) (.t 22), none⟩,
  ⟨(some 24), .callp 0 44 [(.t 17), (.t 18), (.t 23), (.c (.int .i64 3))], none⟩,
  ⟨(some 25), .bin .eql (.t 24) (.c (.int .i64 1)), none⟩]
def f16o5 : List IOper := [
  ⟨(some 26), .mov (.t 2), none⟩,
  ⟨(some 27), .mov (.t 8), none⟩,
  ⟨(some 28), .bin .add (.t 26) (.t 27), none⟩,
  ⟨(some 29), .mov (.t 7), none⟩,
  ⟨(some 30), .bin .rem (.t 28) (.t 29), none⟩,
  ⟨(some 31), .build [(.int .i64 0), (.bool false)] [(0, 1, (.t 30)), (1, 1, (.c (.bool true)))], none⟩,
  ⟨none, .store 2 (.t 6) (.t 31), none⟩]
def f16o6 : List IOper := [
  ⟨(some 15), .mov (.t 8), none⟩,
  ⟨(some 16), .bin .add (.t 15) (.c (.int .i64 1)), none⟩,
  ⟨(some 8), .mov (.t 16), none⟩]
def f16l7 : IC := (.seq (.seq (.ops false f16o3) (.cond (.t 14) .skip (.exit 0))) (.seq (.block 1 (.seq (.ops true f16o4) (.cond (.t 25) (.seq (.ops false f16o5) .ret) .skip))) (.ops false f16o6)))
def f16o8 : List IOper := [
  ⟨(some 32), .build [(.int .i64 0), (.bool false)] [], none⟩,
  ⟨none, .store 2 (.t 6) (.t 32), none⟩]
/-- simulacrum/simulacrumref16.First -/
def f16 : IFn := ⟨(.seq (.ops false f16o0) (.seq (.ops false f16o1) (.seq (.seq (.ops false f16o2) (.block 0 (.loop f16l7))) (.seq (.ops false f16o8) .ret)))), [.cell 6 2 true], 33⟩
def f17o0 : List IOper := [
  ⟨(some 3), .box 24 (.t 0), none⟩,
  ⟨(some 4), .box 27 (.t 1), none⟩,
  ⟨(some 6), .new 42 [(.sl 0 0 []), (.sl 0 0 []), (.int .i64 0)], none⟩]
def f17o1 : List IOper := [
  ⟨(some 7), .mov (.c (.sl 0 0 [])), none⟩]
def f17o2 : List IOper := [
  ⟨(some 11), .mov (.t 2), none⟩,
  ⟨(some 8), .mov (.t 11), none⟩]
def f17o3 : List IOper := [
  ⟨(some 12), .load 1 true (.t 3), none⟩,
  ⟨(some 13), .load 2 true (.t 4), none⟩,
  ⟨(some 14), .mov (.t 7), none⟩,
  ⟨(some 15), .mov (.t 8), none⟩,
  ⟨(some 16), .callp 0 45 [(.t 12), (.t 13), (.t 14), (.t 15)], none⟩,
  ⟨(some 9), .mov (.t 16), none⟩]
def f17o4 : List IOper := [
  ⟨(some 17), .mov (.t 9), none⟩,
  ⟨(some 18), .bin .neq (.t 17) (.c (.int .i64 0)), none⟩]
def f17o5 : List IOper := [
  ⟨(some 19), .load 1 true (.t 3), none⟩,
  ⟨(some 20), .load 2 true (.t 4), none⟩,
  ⟨(some 21), .mov (.t 2), none⟩,
  ⟨(some 22), .callp 0 44 [(.t 19), (.t 20), (.t 21), (.c (.int .i64 3))], none⟩,
  ⟨(some 23), .bin .eql (.t 22) (.c (.int .i64 1)), none⟩]
def f17o6 : List IOper := [
  ⟨(some 24), .load 1 true (.t 3), none⟩,
  ⟨(some 25), .load 2 true (.t 4), none⟩,
  ⟨(some 26), .mov (.t 2), none⟩,
  ⟨(some 27), .mov (.t 9), none⟩,
  ⟨(some 28), .bin .sub (.t 27) (.c (.int .i64 160)), none⟩,
  ⟨(some 29), .bin .add (.c (.int .i64 4)) (.t 28), none⟩,
  ⟨(some 30), .callp 0 46 [(.t 24), (.t 25), (.t 26), (.t 29)], none⟩,
  ⟨none, .store 1 (.t 3) (.t 30), none⟩]
def f17o7 : List IOper := [
  ⟨(some 31), .load 1 true (.t 3), none⟩,
  ⟨(some 32), .mov (.t 9), none⟩,
  ⟨(some 33), .build [(.sl 0 0 []), (.sl 0 0 []), (.int .i64 0)] [(0, 1, (.t 31)), (2, 1, (.t 32))], none⟩,
  ⟨none, .store 3 (.t 6) (.t 33), none⟩]
def f17o8 : List IOper := [
  ⟨(some 34), .load 1 true (.t 3), none⟩,
  ⟨(some 35), .load 2 true (.t 4), none⟩,
  ⟨(some 36), .mov (.t 8), none⟩,
  ⟨(some 37), .callp 0 44 [(.t 34), (.t 35), (.t 36), (.c (.int .i64 2))], none⟩,
  ⟨(some 10), .mov (.t 37), none⟩]
def f17o9 : List IOper := [
  ⟨(some 38), .mov (.t 7), none⟩,
  ⟨(some 39), .mov (.t 8), none⟩,
  ⟨(some 40), .load 1 true (.t 3), none⟩,
  ⟨(some 41), .load 2 true (.t 4), none⟩,
  ⟨(some 42), .mov (.t 8), none⟩,
  ⟨(some 43), .callp 0 44 [(.t 40), (.t 41), (.t 42), (.c (.int .i64 0))], none⟩,
  ⟨(some 44), .load 1 true (.t 3), none⟩,
  ⟨(some 45), .load 2 true (.t 4), none⟩,
  ⟨(some 46), .mov (.t 8), none⟩,
  ⟨(some 47), .callp 0 44 [(.t 44), (.t 45), (.t 46), (.c (.int .i64 1))], none⟩,
  ⟨(some 48), .mov (.t 10), none⟩,
  ⟨(some 49), .bin .rem (.t 48) (.c (.int .i64 2)), none⟩,
  ⟨(some 50), .bin .eql (.t 49) (.c (.int .i64 1)), none⟩,
  ⟨(some 51), .build [(.int .i64 0), (.int .i64 0), (.int .i64 0), (.bool false)] [(0, 1, (.t 39)), (1, 1, (.t 43)), (2, 1, (.t 47)), (3, 1, (.t 50))], none⟩,
  ⟨(some 52), .bsl false 4 [(.int .i64 0), (.int .i64 0), (.int .i64 0), (.bool false)] [(0, 4, (.t 51))], none⟩,
  ⟨(some 53), .app 4 32 (.t 38) (.t 52), none⟩,
  ⟨(some 7), .mov (.t 53), none⟩]
def f17o10 : List IOper := [
  ⟨(some 54), .mov (.t 10), none⟩,
  ⟨(some 55), .bin .quo (.t 54) (.c (.int .i64 2)), none⟩,
  ⟨(some 56), .bin .rem (.t 55) (.c (.int .i64 2)), none⟩,
  ⟨(some 57), .bin .eql (.t 56) (.c (.int .i64 0)), none⟩]
def f17o11 : List IOper := [
  ⟨(some 58), .load 1 true (.t 3), none⟩,
  ⟨(some 59), .load 2 true (.t 4), none⟩,
  ⟨(some 60), .mov (.t 7), none⟩,
  ⟨(some 61), .callp 0 47 [(.t 58), (.t 59), (.t 60), (.c (.int .i64 2))], none⟩,
  ⟨(some 62), .mov (.t 7), none⟩,
  ⟨(some 63), .build [(.sl 0 0 []), (.sl 0 0 []), (.int .i64 0)] [(0, 1, (.t 61)), (1, 1, (.t 62))], none⟩,
  ⟨none, .store 3 (.t 6) (.t 63), none⟩]
def f17o12 : List IOper := [
  ⟨(some 64), .mov (.t 10), none⟩,
  ⟨(some 65), .bin .quo (.t 64) (.c (.int .i64 256)), none⟩,
  ⟨(some 66), .bin .rem (.t 65) (.c (.int .i64 256)), none⟩,
  ⟨(some 8), .mov (.t 66), none⟩]
def f17l13 : IC := (.block 1 (.seq (.ops false f17o3) (.seq (.seq (.ops false f17o4) (.cond (.t 18) (.seq (.seq (.ops false f17o5) (.cond (.t 23) (.ops false f17o6) .skip)) (.seq (.ops false f17o7) .ret)) .skip)) (.seq (.ops false f17o8) (.seq (.ops true f17o9) (.seq (.seq (.ops false f17o10) (.cond (.t 57) (.seq (.ops false f17o11) .ret) .skip)) (.ops false f17o12)))))))
/-- simulacrum/simulacrumref16.Take -/
def f17 : IFn := ⟨(.seq (.ops false f17o0) (.seq (.ops false f17o1) (.seq (.ops false f17o2) (.block 0 (.loop f17l13))))), [.cell 6 3 true], 67⟩
def f18o0 : List IOper := [
  ⟨(some 4), .mov (.c (.bool false)), none⟩]
def f18o1 : List IOper := [
  ⟨(some 6), .mov (.t 0), none⟩,
  ⟨(some 7), .len 4 (.t 6), none⟩,
  ⟨(some 8), .mov (.t 1), none⟩,
  ⟨(some 9), .len 4 (.t 8), none⟩,
  ⟨(some 10), .bin .neq (.t 7) (.t 9), none⟩]
def f18o2 : List IOper := [
  ⟨(some 4), .mov (.c (.bool false)), none⟩]
def f18o3 : List IOper := [
  ⟨(some 5), .mov (.c (.int .i64 0)), none⟩]
def f18o4 : List IOper := [
  ⟨(some 11), .mov (.t 5), none⟩,
  ⟨(some 12), .mov (.t 0), none⟩,
  ⟨(some 13), .len 4 (.t 12), none⟩,
  ⟨(some 14), .bin .lss (.t 11) (.t 13), none⟩]
def f18o5 : List IOper := [
  ⟨(some 17), .mov (.t 0), none⟩,
  ⟨(some 18), .mov (.t 5), none⟩,
  ⟨(some 19), .iaS 4 (.t 17) (.t 18), none⟩,
  ⟨(some 20), .load 4 true (.t 19), none⟩,
  ⟨(some 21), .mov (.t 1), none⟩,
  ⟨(some 22), .mov (.t 5), none⟩,
  ⟨(some 23), .iaS 4 (.t 21) (.t 22), none⟩,
  ⟨(some 24), .load 4 true (.t 23), none⟩,
  ⟨(some 25), .eqA true [0, 0, 0, 1] (.t 20) (.t 24), none⟩]
def f18o6 : List IOper := [
  ⟨(some 4), .mov (.c (.bool false)), none⟩]
def f18o7 : List IOper := [
  ⟨(some 15), .mov (.t 5), none⟩,
  ⟨(some 16), .bin .add (.t 15) (.c (.int .i64 1)), none⟩,
  ⟨(some 5), .mov (.t 16), none⟩]
def f18l8 : IC := (.seq (.seq (.ops false f18o4) (.cond (.t 14) .skip (.exit 0))) (.seq (.block 1 (.seq (.ops true f18o5) (.cond (.t 25) (.seq (.ops false f18o6) .ret) .skip))) (.ops false f18o7)))
def f18o9 : List IOper := [
  ⟨(some 4), .mov (.c (.bool true)), none⟩]
/-- simulacrum/simulacrumref16.Same -/
def f18 : IFn := ⟨(.seq (.ops false f18o0) (.seq (.seq (.ops false f18o1) (.cond (.t 10) (.seq (.ops false f18o2) .ret) .skip)) (.seq (.seq (.ops false f18o3) (.block 0 (.loop f18l8))) (.seq (.ops false f18o9) .ret)))), [.t 4], 26⟩
def f19o0 : List IOper := [
  ⟨(some 2), .box 24 (.t 0), none⟩,
  ⟨(some 3), .box 24 (.t 1), none⟩,
  ⟨(some 4), .mov (.c (.bool false)), none⟩]
def f19o1 : List IOper := [
  ⟨(some 5), .load 1 true (.t 2), none⟩,
  ⟨(some 6), .load 1 true (.t 3), none⟩,
  ⟨(some 7), .callp 0 48 [(.t 5), (.t 6)], none⟩,
  ⟨(some 8), .len 1 (.t 7), none⟩,
  ⟨(some 9), .bin .eql (.t 8) (.c (.int .i64 0)), none⟩,
  ⟨(some 4), .mov (.t 9), none⟩]
/-- simulacrum/simulacrumref06.Same -/
def f19 : IFn := ⟨(.seq (.ops false f19o0) (.seq (.ops false f19o1) .ret)), [.t 4], 10⟩
def f20o0 : List IOper := [
  ⟨(some 3), .box 24 (.t 0), none⟩,
  ⟨(some 4), .box 27 (.t 1), none⟩,
  ⟨(some 6), .new 24 [(.sl 0 0 [])], none⟩]
def f20o1 : List IOper := [
  ⟨(some 9), .mov (.t 2), none⟩,
  ⟨(some 10), .len 4 (.t 9), none⟩,
  ⟨(some 11), .mov (.c (.int .i64 0)), none⟩]
def f20o2 : List IOper := [
  ⟨(some 12), .bin .lss (.t 11) (.t 10), none⟩]
def f20o3 : List IOper := [
  ⟨(some 13), .iaS 4 (.t 9) (.t 11), none⟩,
  ⟨(some 14), .load 4 true (.t 13), none⟩,
  ⟨(some 8), .new 51 [(.int .i64 0), (.int .i64 0), (.int .i64 0), (.bool false)], none⟩,
  ⟨none, .store 4 (.t 8) (.t 14), none⟩]
def f20o4 : List IOper := [
  ⟨(some 15), .load 1 true (.t 3), none⟩,
  ⟨(some 16), .load 2 true (.t 4), none⟩,
  ⟨(some 17), .fadd 0 (.t 8), none⟩,
  ⟨(some 18), .load 1 false (.t 17), none⟩,
  ⟨(some 19), .bsl false 1 [(.int .i64 0)] [(0, 1, (.t 18))], none⟩,
  ⟨(some 20), .callp 0 43 [(.t 15), (.t 16), (.c (.int .i64 3)), (.t 19)], none⟩,
  ⟨none, .store 1 (.t 3) (.t 20), none⟩]
def f20o5 : List IOper := [
  ⟨(some 21), .bin .add (.t 11) (.c (.int .i64 1)), none⟩,
  ⟨(some 11), .mov (.t 21), none⟩]
def f20l6 : IC := (.seq (.ops false f20o2) (.seq (.cond (.t 12) .skip (.exit 0)) (.seq (.block 1 (.seq (.ops false f20o3) (.ops false f20o4))) (.ops false f20o5))))
def f20o7 : List IOper := [
  ⟨(some 22), .load 1 true (.t 3), none⟩,
  ⟨none, .store 1 (.t 6) (.t 22), none⟩]
/-- simulacrum/ring.Finish -/
def f20 : IFn := ⟨(.seq (.ops false f20o0) (.seq (.seq (.ops false f20o1) (.block 0 (.loop f20l6))) (.seq (.ops false f20o7) .ret))), [.cell 6 1 true], 23⟩
def f21o0 : List IOper := [
  ⟨(some 3), .box 24 (.t 0), none⟩,
  ⟨(some 4), .box 27 (.t 1), none⟩,
  ⟨(some 6), .new 24 [(.sl 0 0 [])], none⟩]
def f21o1 : List IOper := [
  ⟨(some 7), .load 1 true (.t 3), none⟩,
  ⟨(some 8), .load 2 true (.t 4), none⟩,
  ⟨(some 9), .mov (.t 2), none⟩,
  ⟨(some 10), .callp 0 47 [(.t 7), (.t 8), (.t 9), (.c (.int .i64 3))], none⟩,
  ⟨none, .store 1 (.t 6) (.t 10), none⟩]
/-- simulacrum/simulacrumref16.Finish -/
def f21 : IFn := ⟨(.seq (.ops false f21o0) (.seq (.ops false f21o1) .ret)), [.cell 6 1 true], 11⟩
def f22o0 : List IOper := [
  ⟨(some 4), .box 24 (.t 0), none⟩,
  ⟨(some 5), .box 27 (.t 1), none⟩,
  ⟨(some 8), .new 24 [(.sl 0 0 [])], none⟩]
def f22o1 : List IOper := [
  ⟨(some 9), .mov (.t 3), none⟩,
  ⟨(some 10), .bin .lss (.t 9) (.c (.int .i64 160)), none⟩,
  ⟨(some 11), .mov (.t 10), none⟩,
  ⟨(some 12), .mov (.t 3), (some (11, false))⟩,
  ⟨(some 13), .bin .gtr (.t 12) (.c (.int .i64 165)), (some (11, false))⟩,
  ⟨(some 14), .pick (.t 11) (.c (.bool true)) (.t 13), none⟩]
def f22o2 : List IOper := [
  ⟨(some 15), .load 1 true (.t 4), none⟩,
  ⟨none, .store 1 (.t 8) (.t 15), none⟩]
def f22o3 : List IOper := [
  ⟨(some 16), .load 1 true (.t 4), none⟩,
  ⟨(some 17), .load 2 true (.t 5), none⟩,
  ⟨(some 18), .mov (.t 3), none⟩,
  ⟨(some 19), .bin .sub (.t 18) (.c (.int .i64 160)), none⟩,
  ⟨(some 20), .bin .add (.c (.int .i64 4)) (.t 19), none⟩,
  ⟨(some 21), .mov (.t 2), none⟩,
  ⟨(some 22), .bsl false 1 [(.int .i64 0)] [(0, 1, (.t 21))], none⟩,
  ⟨(some 23), .callp 0 43 [(.t 16), (.t 17), (.t 20), (.t 22)], none⟩,
  ⟨none, .store 1 (.t 8) (.t 23), none⟩]
/-- simulacrum/ring.Fail -/
def f22 : IFn := ⟨(.seq (.ops false f22o0) (.seq (.seq (.ops false f22o1) (.cond (.t 14) (.seq (.ops false f22o2) .ret) .skip)) (.seq (.ops false f22o3) .ret))), [.cell 8 1 true], 24⟩
def f23o0 : List IOper := [
  ⟨(some 4), .box 24 (.t 0), none⟩,
  ⟨(some 5), .box 27 (.t 1), none⟩,
  ⟨(some 8), .new 24 [(.sl 0 0 [])], none⟩]
def f23o1 : List IOper := [
  ⟨(some 9), .mov (.t 3), none⟩,
  ⟨(some 10), .bin .lss (.t 9) (.c (.int .i64 160)), none⟩,
  ⟨(some 11), .mov (.t 10), none⟩,
  ⟨(some 12), .mov (.t 3), (some (11, false))⟩,
  ⟨(some 13), .bin .gtr (.t 12) (.c (.int .i64 165)), (some (11, false))⟩,
  ⟨(some 14), .pick (.t 11) (.c (.bool true)) (.t 13), none⟩]
def f23o2 : List IOper := [
  ⟨(some 15), .load 1 true (.t 4), none⟩,
  ⟨none, .store 1 (.t 8) (.t 15), none⟩]
def f23o3 : List IOper := [
  ⟨(some 16), .load 1 true (.t 4), none⟩,
  ⟨(some 17), .load 2 true (.t 5), none⟩,
  ⟨(some 18), .mov (.t 2), none⟩,
  ⟨(some 19), .mov (.t 3), none⟩,
  ⟨(some 20), .bin .sub (.t 19) (.c (.int .i64 160)), none⟩,
  ⟨(some 21), .bin .add (.c (.int .i64 4)) (.t 20), none⟩,
  ⟨(some 22), .callp 0 46 [(.t 16), (.t 17), (.t 18), (.t 21)], none⟩,
  ⟨none, .store 1 (.t 8) (.t 22), none⟩]
/-- simulacrum/simulacrumref16.Fail -/
def f23 : IFn := ⟨(.seq (.ops false f23o0) (.seq (.seq (.ops false f23o1) (.cond (.t 14) (.seq (.ops false f23o2) .ret) .skip)) (.seq (.ops false f23o3) .ret))), [.cell 8 1 true], 23⟩
def f24o0 : List IOper := [
  ⟨(some 3), .box 24 (.t 0), none⟩,
  ⟨(some 4), .box 24 (.t 1), none⟩,
  ⟨(some 6), .mov (.c (.bool false)), none⟩]
def f24o1 : List IOper := [
  ⟨(some 11), .fadd 0 (.t 3), none⟩,
  ⟨(some 12), .load 1 false (.t 11), none⟩,
  ⟨(some 13), .len 128 (.t 12), none⟩,
  ⟨(some 14), .fadd 0 (.t 4), none⟩,
  ⟨(some 15), .load 1 false (.t 14), none⟩,
  ⟨(some 16), .len 128 (.t 15), none⟩,
  ⟨(some 17), .bin .neq (.t 13) (.t 16), none⟩]
def f24o2 : List IOper := [
  ⟨(some 6), .mov (.c (.bool false)), none⟩]
def f24o3 : List IOper := [
  ⟨(some 18), .load 1 true (.t 3), none⟩,
  ⟨(some 19), .callp 0 34 [(.t 18)], none⟩,
  ⟨(some 20), .mov (.c (.int .i64 0)), none⟩]
def f24o4 : List IOper := [
  ⟨(some 21), .bin .lss (.t 20) (.t 19), none⟩]
def f24o5 : List IOper := [
  ⟨(some 22), .mov (.t 20), none⟩,
  ⟨(some 7), .mov (.t 22), none⟩]
def f24o6 : List IOper := [
  ⟨(some 23), .fadd 0 (.t 3), none⟩,
  ⟨(some 24), .load 1 false (.t 23), none⟩,
  ⟨(some 25), .mov (.t 7), none⟩,
  ⟨(some 26), .bin .quo (.t 25) (.c (.int .i64 128)), none⟩,
  ⟨(some 27), .mov (.t 7), none⟩,
  ⟨(some 28), .bin .rem (.t 27) (.c (.int .i64 128)), none⟩,
  ⟨(some 29), .iaS 128 (.t 24) (.t 26), none⟩,
  ⟨(some 30), .iaA 128 1 (.t 29) (.t 28), none⟩,
  ⟨(some 31), .load 1 false (.t 30), none⟩,
  ⟨(some 32), .fadd 0 (.t 4), none⟩,
  ⟨(some 33), .load 1 false (.t 32), none⟩,
  ⟨(some 34), .mov (.t 7), none⟩,
  ⟨(some 35), .bin .quo (.t 34) (.c (.int .i64 128)), none⟩,
  ⟨(some 36), .mov (.t 7), none⟩,
  ⟨(some 37), .bin .rem (.t 36) (.c (.int .i64 128)), none⟩,
  ⟨(some 38), .iaS 128 (.t 33) (.t 35), none⟩,
  ⟨(some 39), .iaA 128 1 (.t 38) (.t 37), none⟩,
  ⟨(some 40), .load 1 false (.t 39), none⟩,
  ⟨(some 41), .bin .eql (.t 31) (.t 40), none⟩]
def f24o7 : List IOper := [
  ⟨(some 8), .mov (.c (.bool false)), none⟩]
def f24o8 : List IOper := [
  ⟨(some 42), .mov (.t 2), none⟩,
  ⟨(some 43), .len 4 (.t 42), none⟩,
  ⟨(some 44), .mov (.c (.int .i64 0)), none⟩]
def f24o9 : List IOper := [
  ⟨(some 45), .bin .lss (.t 44) (.t 43), none⟩]
def f24o10 : List IOper := [
  ⟨(some 46), .iaS 4 (.t 42) (.t 44), none⟩,
  ⟨(some 47), .load 4 true (.t 46), none⟩,
  ⟨(some 10), .new 51 [(.int .i64 0), (.int .i64 0), (.int .i64 0), (.bool false)], none⟩,
  ⟨none, .store 4 (.t 10) (.t 47), none⟩]
def f24o11 : List IOper := [
  ⟨(some 48), .mov (.t 8), none⟩,
  ⟨(some 49), .mov (.t 48), none⟩,
  ⟨(some 50), .mov (.t 7), (some (49, false))⟩,
  ⟨(some 51), .fadd 1 (.t 10), (some (49, false))⟩,
  ⟨(some 52), .load 1 false (.t 51), (some (49, false))⟩,
  ⟨(some 53), .bin .geq (.t 50) (.t 52), (some (49, false))⟩,
  ⟨(some 54), .mov (.t 53), (some (49, false))⟩,
  ⟨(some 55), .mov (.t 7), (some (54, true))⟩,
  ⟨(some 56), .fadd 1 (.t 10), (some (54, true))⟩,
  ⟨(some 57), .load 1 false (.t 56), (some (54, true))⟩,
  ⟨(some 58), .fadd 2 (.t 10), (some (54, true))⟩,
  ⟨(some 59), .load 1 false (.t 58), (some (54, true))⟩,
  ⟨(some 60), .bin .add (.t 57) (.t 59), (some (54, true))⟩,
  ⟨(some 61), .bin .lss (.t 55) (.t 60), (some (54, true))⟩,
  ⟨(some 62), .pick (.t 54) (.t 61) (.c (.bool false)), (some (49, false))⟩,
  ⟨(some 63), .pick (.t 49) (.c (.bool true)) (.t 62), none⟩,
  ⟨(some 8), .mov (.t 63), none⟩]
def f24o12 : List IOper := [
  ⟨(some 64), .bin .add (.t 44) (.c (.int .i64 1)), none⟩,
  ⟨(some 44), .mov (.t 64), none⟩]
def f24l13 : IC := (.seq (.ops false f24o9) (.seq (.cond (.t 45) .skip (.exit 2)) (.seq (.block 3 (.seq (.ops false f24o10) (.ops false f24o11))) (.ops false f24o12))))
def f24o14 : List IOper := [
  ⟨(some 65), .mov (.t 8), none⟩,
  ⟨(some 66), .un .not (.t 65), none⟩]
def f24o15 : List IOper := [
  ⟨(some 6), .mov (.c (.bool false)), none⟩]
def f24o16 : List IOper := [
  ⟨(some 67), .bin .add (.t 20) (.c (.int .i64 1)), none⟩,
  ⟨(some 20), .mov (.t 67), none⟩]
def f24l17 : IC := (.seq (.ops false f24o4) (.seq (.cond (.t 21) .skip (.exit 0)) (.seq (.block 1 (.seq (.ops false f24o5) (.seq (.seq (.ops true f24o6) (.cond (.t 41) (.exit 1) .skip)) (.seq (.ops false f24o7) (.seq (.seq (.ops false f24o8) (.block 2 (.loop f24l13))) (.seq (.ops false f24o14) (.cond (.t 66) (.seq (.ops false f24o15) .ret) .skip))))))) (.ops false f24o16))))
def f24o18 : List IOper := [
  ⟨(some 6), .mov (.c (.bool true)), none⟩]
/-- simulacrum/simulacrumlaw16.apart -/
def f24 : IFn := ⟨(.seq (.ops false f24o0) (.seq (.seq (.ops false f24o1) (.cond (.t 17) (.seq (.ops false f24o2) .ret) .skip)) (.seq (.seq (.ops false f24o3) (.block 0 (.loop f24l17))) (.seq (.ops false f24o18) .ret)))), [.t 6], 68⟩
def f25o0 : List IOper := [
  ⟨(some 2), .box 27 (.t 0), none⟩,
  ⟨(some 4), .new 51 [(.int .i64 0), (.int .i64 0), (.int .i64 0), (.bool false)], none⟩]
def f25o1 : List IOper := [
  ⟨(some 5), .fadd 0 (.t 2), none⟩,
  ⟨(some 6), .load 1 false (.t 5), none⟩,
  ⟨(some 7), .conv .i64 (.t 6), none⟩,
  ⟨(some 8), .mov (.t 1), none⟩,
  ⟨(some 9), .bin .mul (.c (.int .i64 16)) (.t 8), none⟩,
  ⟨(some 10), .bin .add (.t 7) (.t 9), none⟩,
  ⟨(some 11), .bin .add (.t 10) (.c (.int .i64 12)), none⟩,
  ⟨(some 12), .build [(.int .i64 0), (.int .i64 0), (.int .i64 0), (.bool false)] [(1, 1, (.t 11)), (2, 1, (.c (.int .i64 4)))], none⟩,
  ⟨none, .store 4 (.t 4) (.t 12), none⟩]
/-- simulacrum/simulacrumlaw16.state -/
def f25 : IFn := ⟨(.seq (.ops false f25o0) (.seq (.ops false f25o1) .ret)), [.cell 4 4 true], 13⟩
def f26o0 : List IOper := [
  ⟨(some 3), .box 24 (.t 0), none⟩,
  ⟨(some 6), .new 24 [(.sl 0 0 [])], none⟩,
  ⟨(some 7), .mov (.c (.int .i64 0)), none⟩]
def f26o1 : List IOper := [
  ⟨(some 8), .mov (.c (.int .i64 0)), none⟩]
def f26o2 : List IOper := [
  ⟨(some 12), .mov (.t 1), none⟩,
  ⟨(some 13), .len 4 (.t 12), none⟩,
  ⟨(some 14), .mov (.c (.int .i64 0)), none⟩]
def f26o3 : List IOper := [
  ⟨(some 15), .bin .lss (.t 14) (.t 13), none⟩]
def f26o4 : List IOper := [
  ⟨(some 16), .iaS 4 (.t 12) (.t 14), none⟩,
  ⟨(some 17), .load 4 true (.t 16), none⟩,
  ⟨(some 10), .new 51 [(.int .i64 0), (.int .i64 0), (.int .i64 0), (.bool false)], none⟩,
  ⟨none, .store 4 (.t 10) (.t 17), none⟩]
def f26o5 : List IOper := [
  ⟨(some 18), .fadd 2 (.t 10), none⟩,
  ⟨(some 19), .load 1 false (.t 18), none⟩,
  ⟨(some 20), .mov (.t 2), none⟩,
  ⟨(some 21), .lenS (.t 20), none⟩,
  ⟨(some 22), .mov (.t 8), none⟩,
  ⟨(some 23), .bin .sub (.t 21) (.t 22), none⟩,
  ⟨(some 24), .mn false [(.t 19), (.t 23)], none⟩,
  ⟨(some 11), .mov (.t 24), none⟩]
def f26o6 : List IOper := [
  ⟨(some 25), .fadd 3 (.t 10), none⟩,
  ⟨(some 26), .load 1 false (.t 25), none⟩]
def f26o7 : List IOper := [
  ⟨(some 28), .load 1 true (.t 3), none⟩,
  ⟨(some 29), .fadd 1 (.t 10), none⟩,
  ⟨(some 30), .load 1 false (.t 29), none⟩,
  ⟨(some 31), .mov (.t 2), none⟩,
  ⟨(some 32), .mov (.t 8), none⟩,
  ⟨(some 33), .mov (.t 8), none⟩,
  ⟨(some 34), .mov (.t 11), none⟩,
  ⟨(some 35), .bin .add (.t 33) (.t 34), none⟩,
  ⟨(some 36), .slS (.t 31) (some (.t 32)) (some (.t 35)), none⟩,
  ⟨(some 37), .callp 0 49 [(.t 28), (.t 30), (.t 36)], none⟩,
  ⟨(some 27), .mov (.t 37), none⟩,
  ⟨(some 38), .ext (.t 27) 0, none⟩,
  ⟨(some 39), .ext (.t 27) 1, none⟩,
  ⟨none, .store 1 (.t 3) (.t 38), none⟩]
def f26o8 : List IOper := [
  ⟨(some 40), .mov (.t 8), none⟩,
  ⟨(some 41), .mov (.t 11), none⟩,
  ⟨(some 42), .bin .add (.t 40) (.t 41), none⟩,
  ⟨(some 8), .mov (.t 42), none⟩]
def f26o9 : List IOper := [
  ⟨(some 43), .bin .add (.t 14) (.c (.int .i64 1)), none⟩,
  ⟨(some 14), .mov (.t 43), none⟩]
def f26l10 : IC := (.seq (.ops false f26o3) (.seq (.cond (.t 15) .skip (.exit 0)) (.seq (.block 1 (.seq (.ops false f26o4) (.seq (.ops false f26o5) (.seq (.ops false f26o6) (.cond (.t 26) (.seq (.ops true f26o7) (.ops false f26o8)) .skip))))) (.ops false f26o9))))
def f26o11 : List IOper := [
  ⟨(some 44), .load 1 true (.t 3), none⟩,
  ⟨(some 45), .mov (.t 8), none⟩,
  ⟨none, .store 1 (.t 6) (.t 44), none⟩,
  ⟨(some 7), .mov (.t 45), none⟩]
/-- simulacrum/ring.Scatter -/
def f26 : IFn := ⟨(.seq (.ops false f26o0) (.seq (.ops false f26o1) (.seq (.seq (.ops false f26o2) (.block 0 (.loop f26l10))) (.seq (.ops false f26o11) .ret)))), [.cell 6 1 true, .t 7], 46⟩
def f27o0 : List IOper := [
  ⟨(some 3), .box 24 (.t 0), none⟩,
  ⟨(some 4), .box 27 (.t 1), none⟩,
  ⟨(some 6), .mov (.c (.int .u32 0)), none⟩]
def f27o1 : List IOper := [
  ⟨(some 10), .load 1 true (.t 3), none⟩,
  ⟨(some 11), .fadd 0 (.t 4), none⟩,
  ⟨(some 12), .load 1 false (.t 11), none⟩,
  ⟨(some 13), .conv .i64 (.t 12), none⟩,
  ⟨(some 14), .mov (.t 2), none⟩,
  ⟨(some 15), .bin .mul (.c (.int .i64 16)) (.t 14), none⟩,
  ⟨(some 16), .bin .add (.t 13) (.t 15), none⟩,
  ⟨(some 17), .bin .add (.t 16) (.c (.int .i64 12)), none⟩,
  ⟨(some 18), .callp 0 50 [(.t 10), (.t 17), (.c (.int .i64 4))], none⟩,
  ⟨(some 9), .mov (.t 18), none⟩,
  ⟨(some 19), .ext (.t 9) 0, none⟩,
  ⟨(some 20), .ext (.t 9) 1, none⟩,
  ⟨(some 7), .mov (.t 19), none⟩,
  ⟨(some 8), .mov (.t 20), none⟩]
def f27o2 : List IOper := [
  ⟨(some 21), .mov (.t 7), none⟩,
  ⟨(some 6), .mov (.t 21), none⟩]
/-- simulacrum/simulacrumlaw16.status -/
def f27 : IFn := ⟨(.seq (.ops false f27o0) (.seq (.ops false f27o1) (.seq (.ops false f27o2) .ret))), [.t 6], 22⟩
def f28o0 : List IOper := [
  ⟨(some 2), .box 24 (.t 0), none⟩,
  ⟨(some 3), .box 24 (.t 1), none⟩,
  ⟨(some 4), .mov (.c (.sl 0 0 [])), none⟩]
def f28o1 : List IOper := [
  ⟨(some 5), .mov (.c (.sl 0 0 [])), none⟩]
def f28o2 : List IOper := [
  ⟨(some 7), .fadd 0 (.t 2), none⟩,
  ⟨(some 8), .load 1 false (.t 7), none⟩,
  ⟨(some 9), .len 128 (.t 8), none⟩,
  ⟨(some 10), .fadd 0 (.t 3), none⟩,
  ⟨(some 11), .load 1 false (.t 10), none⟩,
  ⟨(some 12), .len 128 (.t 11), none⟩,
  ⟨(some 13), .mn true [(.t 9), (.t 12)], none⟩,
  ⟨(some 14), .mov (.c (.int .i64 0)), none⟩]
def f28o3 : List IOper := [
  ⟨(some 15), .bin .lss (.t 14) (.t 13), none⟩]
def f28o4 : List IOper := [
  ⟨(some 16), .mov (.t 14), none⟩,
  ⟨(some 6), .mov (.t 16), none⟩]
def f28o5 : List IOper := [
  ⟨(some 17), .mov (.t 6), none⟩,
  ⟨(some 18), .fadd 0 (.t 2), none⟩,
  ⟨(some 19), .load 1 false (.t 18), none⟩,
  ⟨(some 20), .len 128 (.t 19), none⟩,
  ⟨(some 21), .bin .geq (.t 17) (.t 20), none⟩,
  ⟨(some 22), .mov (.t 21), none⟩,
  ⟨(some 23), .mov (.t 6), (some (22, false))⟩,
  ⟨(some 24), .fadd 0 (.t 3), (some (22, false))⟩,
  ⟨(some 25), .load 1 false (.t 24), (some (22, false))⟩,
  ⟨(some 26), .len 128 (.t 25), (some (22, false))⟩,
  ⟨(some 27), .bin .geq (.t 23) (.t 26), (some (22, false))⟩,
  ⟨(some 28), .pick (.t 22) (.c (.bool true)) (.t 27), none⟩,
  ⟨(some 29), .mov (.t 28), none⟩,
  ⟨(some 30), .fadd 0 (.t 2), (some (29, false))⟩,
  ⟨(some 31), .load 1 false (.t 30), (some (29, false))⟩,
  ⟨(some 32), .mov (.t 6), (some (29, false))⟩,
  ⟨(some 33), .iaS 128 (.t 31) (.t 32), (some (29, false))⟩,
  ⟨(some 34), .load 128 true (.t 33), (some (29, false))⟩,
  ⟨(some 35), .fadd 0 (.t 3), (some (29, false))⟩,
  ⟨(some 36), .load 1 false (.t 35), (some (29, false))⟩,
  ⟨(some 37), .mov (.t 6), (some (29, false))⟩,
  ⟨(some 38), .iaS 128 (.t 36) (.t 37), (some (29, false))⟩,
  ⟨(some 39), .load 128 true (.t 38), (some (29, false))⟩,
  ⟨(some 40), .eqA true [0, 0, 0, 0, 0, 0, 0, 0, 0, 0, 0, 0, 0, 0, 0, 0, 0, 0, 0, 0, 0, 0, 0, 0, 0, 0, 0, 0, 0, 0, 0, 0, 0, 0, 0, 0, 0, 0, 0, 0, 0, 0, 0, 0, 0, 0, 0, 0, 0, 0, 0, 0, 0, 0, 0, 0, 0, 0, 0, 0, 0, 0, 0, 0, 0, 0, 0, 0, 0, 0, 0, 0, 0, 0, 0, 0, 0, 0, 0, 0, 0, 0, 0, 0, 0, 0, 0, 0, 0, 0, 0, 0, 0, 0, 0, 0, 0, 0, 0, 0, 0, 0, 0, 0, 0, 0, 0, 0, 0, 0, 0, 0, 0, 0, 0, 0, 0, 0, 0, 0, 0, 0, 0, 0, 0, 0, 0, 0] (.t 34) (.t 39), (some (29, false))⟩,
  ⟨(some 41), .pick (.t 29) (.c (.bool true)) (.t 40), none⟩]
def f28o6 : List IOper := [
  ⟨(some 42), .mov (.t 5), none⟩,
  ⟨(some 43), .mov (.t 6), none⟩,
  ⟨(some 44), .bsl false 1 [(.int .i64 0)] [(0, 1, (.t 43))], none⟩,
  ⟨(some 45), .app 1 8 (.t 42) (.t 44), none⟩,
  ⟨(some 5), .mov (.t 45), none⟩]
def f28o7 : List IOper := [
  ⟨(some 46), .bin .add (.t 14) (.c (.int .i64 1)), none⟩,
  ⟨(some 14), .mov (.t 46), none⟩]
def f28l8 : IC := (.seq (.ops false f28o3) (.seq (.cond (.t 15) .skip (.exit 0)) (.seq (.block 1 (.seq (.ops false f28o4) (.seq (.ops true f28o5) (.cond (.t 41) (.ops false f28o6) .skip)))) (.ops false f28o7))))
def f28o9 : List IOper := [
  ⟨(some 47), .mov (.t 5), none⟩,
  ⟨(some 4), .mov (.t 47), none⟩]
/-- simulacrum/memory.Diff -/
def f28 : IFn := ⟨(.seq (.ops false f28o0) (.seq (.ops false f28o1) (.seq (.seq (.ops false f28o2) (.block 0 (.loop f28l8))) (.seq (.ops false f28o9) .ret)))), [.t 4], 48⟩
def f29o0 : List IOper := [
  ⟨(some 3), .box 24 (.t 0), none⟩,
  ⟨(some 6), .new 61 [(.sl 0 0 []), (.int .i64 0)], none⟩]
def f29o1 : List IOper := [
  ⟨(some 7), .mov (.c (.int .i64 0)), none⟩]
def f29o2 : List IOper := [
  ⟨(some 8), .mov (.c (.int .i64 0)), none⟩]
def f29o3 : List IOper := [
  ⟨(some 10), .mov (.t 8), none⟩,
  ⟨(some 11), .mov (.t 1), none⟩,
  ⟨(some 12), .len 4 (.t 11), none⟩,
  ⟨(some 13), .bin .lss (.t 10) (.t 12), none⟩]
def f29o4 : List IOper := [
  ⟨(some 16), .mov (.t 1), none⟩,
  ⟨(some 17), .mov (.t 8), none⟩,
  ⟨(some 18), .iaS 4 (.t 16) (.t 17), none⟩,
  ⟨(some 19), .fadd 3 (.t 18), none⟩,
  ⟨(some 20), .load 1 false (.t 19), none⟩]
def f29o5 : List IOper := [
  ⟨(some 21), .mov (.t 1), none⟩,
  ⟨(some 22), .mov (.t 8), none⟩,
  ⟨(some 23), .iaS 4 (.t 21) (.t 22), none⟩,
  ⟨(some 24), .fadd 2 (.t 23), none⟩,
  ⟨(some 25), .load 1 false (.t 24), none⟩,
  ⟨(some 26), .mov (.t 2), none⟩,
  ⟨(some 27), .lenS (.t 26), none⟩,
  ⟨(some 28), .mov (.t 7), none⟩,
  ⟨(some 29), .bin .sub (.t 27) (.t 28), none⟩,
  ⟨(some 30), .mn false [(.t 25), (.t 29)], none⟩,
  ⟨(some 9), .mov (.t 30), none⟩]
def f29o6 : List IOper := [
  ⟨(some 31), .load 1 true (.t 3), none⟩,
  ⟨(some 32), .mov (.t 1), none⟩,
  ⟨(some 33), .mov (.t 8), none⟩,
  ⟨(some 34), .iaS 4 (.t 32) (.t 33), none⟩,
  ⟨(some 35), .fadd 1 (.t 34), none⟩,
  ⟨(some 36), .load 1 false (.t 35), none⟩,
  ⟨(some 37), .mov (.t 2), none⟩,
  ⟨(some 38), .mov (.t 7), none⟩,
  ⟨(some 39), .mov (.t 7), none⟩,
  ⟨(some 40), .mov (.t 9), none⟩,
  ⟨(some 41), .bin .add (.t 39) (.t 40), none⟩,
  ⟨(some 42), .slS (.t 37) (some (.t 38)) (some (.t 41)), none⟩,
  ⟨(some 43), .callp 0 51 [(.t 31), (.t 36), (.t 42)], none⟩,
  ⟨(some 44), .fld 0 1 true (.t 43), none⟩,
  ⟨none, .store 1 (.t 3) (.t 44), none⟩]
def f29o7 : List IOper := [
  ⟨(some 45), .mov (.t 7), none⟩,
  ⟨(some 46), .mov (.t 9), none⟩,
  ⟨(some 47), .bin .add (.t 45) (.t 46), none⟩,
  ⟨(some 7), .mov (.t 47), none⟩]
def f29o8 : List IOper := [
  ⟨(some 14), .mov (.t 8), none⟩,
  ⟨(some 15), .bin .add (.t 14) (.c (.int .i64 1)), none⟩,
  ⟨(some 8), .mov (.t 15), none⟩]
def f29l9 : IC := (.seq (.seq (.ops false f29o3) (.cond (.t 13) .skip (.exit 0))) (.seq (.block 1 (.seq (.ops false f29o4) (.cond (.t 20) (.seq (.ops false f29o5) (.seq (.ops true f29o6) (.ops false f29o7))) .skip))) (.ops false f29o8)))
def f29o10 : List IOper := [
  ⟨(some 48), .load 1 true (.t 3), none⟩,
  ⟨(some 49), .mov (.t 7), none⟩,
  ⟨(some 50), .build [(.sl 0 0 []), (.int .i64 0)] [(0, 1, (.t 48)), (1, 1, (.t 49))], none⟩,
  ⟨none, .store 2 (.t 6) (.t 50), none⟩]
/-- simulacrum/simulacrumref16.Scatter -/
def f29 : IFn := ⟨(.seq (.ops false f29o0) (.seq (.ops false f29o1) (.seq (.seq (.ops false f29o2) (.block 0 (.loop f29l9))) (.seq (.ops false f29o10) .ret)))), [.cell 6 2 true], 51⟩
def f31o0 : List IOper := [
  ⟨(some 2), .box 24 (.t 0), none⟩,
  ⟨(some 4), .mov (.c (.str [])), none⟩]
def f31o1 : List IOper := [
  ⟨(some 5), .mov (.c (.str [])), none⟩]
def f31o2 : List IOper := [
  ⟨(some 6), .mov (.c (.int .i64 0)), none⟩]
def f31o3 : List IOper := [
  ⟨(some 7), .mov (.t 6), none⟩,
  ⟨(some 8), .mov (.t 1), none⟩,
  ⟨(some 9), .len 4 (.t 8), none⟩,
  ⟨(some 10), .bin .lss (.t 7) (.t 9), none⟩]
def f31o4 : List IOper := [
  ⟨(some 13), .mov (.t 1), none⟩,
  ⟨(some 14), .mov (.t 6), none⟩,
  ⟨(some 15), .iaS 4 (.t 13) (.t 14), none⟩,
  ⟨(some 16), .fadd 3 (.t 15), none⟩,
  ⟨(some 17), .load 1 false (.t 16), none⟩,
  ⟨(some 18), .un .not (.t 17), none⟩]
def f31o5 : List IOper := [
  ⟨(some 19), .mov (.t 5), none⟩,
  ⟨(some 20), .load 1 true (.t 2), none⟩,
  ⟨(some 21), .mov (.t 1), none⟩,
  ⟨(some 22), .mov (.t 6), none⟩,
  ⟨(some 23), .iaS 4 (.t 21) (.t 22), none⟩,
  ⟨(some 24), .fadd 1 (.t 23), none⟩,
  ⟨(some 25), .load 1 false (.t 24), none⟩,
  ⟨(some 26), .mov (.t 1), none⟩,
  ⟨(some 27), .mov (.t 6), none⟩,
  ⟨(some 28), .iaS 4 (.t 26) (.t 27), none⟩,
  ⟨(some 29), .fadd 2 (.t 28), none⟩,
  ⟨(some 30), .load 1 false (.t 29), none⟩,
  ⟨(some 31), .callp 0 54 [(.t 20), (.t 25), (.t 30)], none⟩,
  ⟨(some 32), .fld 0 1 false (.t 31), none⟩,
  ⟨(some 33), .bin .add (.t 19) (.t 32), none⟩,
  ⟨(some 5), .mov (.t 33), none⟩]
def f31o6 : List IOper := [
  ⟨(some 11), .mov (.t 6), none⟩,
  ⟨(some 12), .bin .add (.t 11) (.c (.int .i64 1)), none⟩,
  ⟨(some 6), .mov (.t 12), none⟩]
def f31l7 : IC := (.seq (.seq (.ops false f31o3) (.cond (.t 10) .skip (.exit 0))) (.seq (.block 1 (.seq (.ops false f31o4) (.cond (.t 18) (.ops true f31o5) .skip))) (.ops false f31o6)))
def f31o8 : List IOper := [
  ⟨(some 34), .mov (.t 5), none⟩,
  ⟨(some 4), .mov (.t 34), none⟩]
/-- simulacrum/simulacrumref16.Gather -/
def f31 : IFn := ⟨(.seq (.ops false f31o0) (.seq (.ops false f31o1) (.seq (.seq (.ops false f31o2) (.block 0 (.loop f31l7))) (.seq (.ops false f31o8) .ret)))), [.t 4], 35⟩
def f32o0 : List IOper := [
  ⟨(some 2), .mov (.c (.int .i64 0)), none⟩]
def f32o1 : List IOper := [
  ⟨(some 3), .mov (.c (.int .i64 0)), none⟩]
def f32o2 : List IOper := [
  ⟨(some 6), .mov (.t 0), none⟩,
  ⟨(some 7), .len 4 (.t 6), none⟩,
  ⟨(some 8), .mov (.c (.int .i64 0)), none⟩]
def f32o3 : List IOper := [
  ⟨(some 9), .bin .lss (.t 8) (.t 7), none⟩]
def f32o4 : List IOper := [
  ⟨(some 10), .iaS 4 (.t 6) (.t 8), none⟩,
  ⟨(some 11), .load 4 true (.t 10), none⟩,
  ⟨(some 5), .new 51 [(.int .i64 0), (.int .i64 0), (.int .i64 0), (.bool false)], none⟩,
  ⟨none, .store 4 (.t 5) (.t 11), none⟩]
def f32o5 : List IOper := [
  ⟨(some 12), .fadd 3 (.t 5), none⟩,
  ⟨(some 13), .load 1 false (.t 12), none⟩]
def f32o6 : List IOper := [
  ⟨(some 14), .mov (.t 3), none⟩,
  ⟨(some 15), .fadd 2 (.t 5), none⟩,
  ⟨(some 16), .load 1 false (.t 15), none⟩,
  ⟨(some 17), .bin .add (.t 14) (.t 16), none⟩,
  ⟨(some 3), .mov (.t 17), none⟩]
def f32o7 : List IOper := [
  ⟨(some 18), .bin .add (.t 8) (.c (.int .i64 1)), none⟩,
  ⟨(some 8), .mov (.t 18), none⟩]
def f32l8 : IC := (.seq (.ops false f32o3) (.seq (.cond (.t 9) .skip (.exit 0)) (.seq (.block 1 (.seq (.ops false f32o4) (.seq (.ops false f32o5) (.cond (.t 13) (.ops false f32o6) .skip)))) (.ops false f32o7))))
def f32o9 : List IOper := [
  ⟨(some 19), .mov (.t 3), none⟩,
  ⟨(some 2), .mov (.t 19), none⟩]
/-- simulacrum/ring.Room -/
def f32 : IFn := ⟨(.seq (.ops false f32o0) (.seq (.ops false f32o1) (.seq (.seq (.ops false f32o2) (.block 0 (.loop f32l8))) (.seq (.ops false f32o9) .ret)))), [.t 2], 20⟩
def f33o0 : List IOper := [
  ⟨(some 2), .mov (.c (.int .i64 0)), none⟩]
def f33o1 : List IOper := [
  ⟨(some 3), .mov (.c (.int .i64 0)), none⟩]
def f33o2 : List IOper := [
  ⟨(some 4), .mov (.c (.int .i64 0)), none⟩]
def f33o3 : List IOper := [
  ⟨(some 5), .mov (.t 4), none⟩,
  ⟨(some 6), .mov (.t 0), none⟩,
  ⟨(some 7), .len 4 (.t 6), none⟩,
  ⟨(some 8), .bin .lss (.t 5) (.t 7), none⟩]
def f33o4 : List IOper := [
  ⟨(some 11), .mov (.t 0), none⟩,
  ⟨(some 12), .mov (.t 4), none⟩,
  ⟨(some 13), .iaS 4 (.t 11) (.t 12), none⟩,
  ⟨(some 14), .fadd 3 (.t 13), none⟩,
  ⟨(some 15), .load 1 false (.t 14), none⟩]
def f33o5 : List IOper := [
  ⟨(some 16), .mov (.t 3), none⟩,
  ⟨(some 17), .mov (.t 0), none⟩,
  ⟨(some 18), .mov (.t 4), none⟩,
  ⟨(some 19), .iaS 4 (.t 17) (.t 18), none⟩,
  ⟨(some 20), .fadd 2 (.t 19), none⟩,
  ⟨(some 21), .load 1 false (.t 20), none⟩,
  ⟨(some 22), .bin .add (.t 16) (.t 21), none⟩,
  ⟨(some 3), .mov (.t 22), none⟩]
def f33o6 : List IOper := [
  ⟨(some 9), .mov (.t 4), none⟩,
  ⟨(some 10), .bin .add (.t 9) (.c (.int .i64 1)), none⟩,
  ⟨(some 4), .mov (.t 10), none⟩]
def f33l7 : IC := (.seq (.seq (.ops false f33o3) (.cond (.t 8) .skip (.exit 0))) (.seq (.block 1 (.seq (.ops false f33o4) (.cond (.t 15) (.ops false f33o5) .skip))) (.ops false f33o6)))
def f33o8 : List IOper := [
  ⟨(some 23), .mov (.t 3), none⟩,
  ⟨(some 2), .mov (.t 23), none⟩]
/-- simulacrum/simulacrumref16.Room -/
def f33 : IFn := ⟨(.seq (.ops false f33o0) (.seq (.ops false f33o1) (.seq (.seq (.ops false f33o2) (.block 0 (.loop f33l7))) (.seq (.ops false f33o8) .ret)))), [.t 2], 24⟩
def f34o0 : List IOper := [
  ⟨(some 1), .box 24 (.t 0), none⟩,
  ⟨(some 2), .mov (.c (.int .i64 0)), none⟩]
def f34o1 : List IOper := [
  ⟨(some 3), .fadd 0 (.t 1), none⟩,
  ⟨(some 4), .load 1 false (.t 3), none⟩,
  ⟨(some 5), .len 128 (.t 4), none⟩,
  ⟨(some 6), .bin .mul (.t 5) (.c (.int .i64 128)), none⟩,
  ⟨(some 2), .mov (.t 6), none⟩]
/-- simulacrum/memory.Size -/
def f34 : IFn := ⟨(.seq (.ops false f34o0) (.seq (.ops false f34o1) .ret)), [.t 2], 7⟩
def f35o0 : List IOper := [
  ⟨(some 2), .new 24 [(.sl 0 0 [])], none⟩,
  ⟨(some 3), .mov (.c (.int .i64 0)), none⟩]
def f35o1 : List IOper := [
  ⟨(some 4), .mov (.t 0), none⟩,
  ⟨(some 5), .bin .lss (.t 4) (.c (.int .i64 1)), none⟩,
  ⟨(some 6), .mov (.t 5), none⟩,
  ⟨(some 7), .mov (.t 0), (some (6, false))⟩,
  ⟨(some 8), .bin .gtr (.t 7) (.c (.int .i64 64)), (some (6, false))⟩,
  ⟨(some 9), .pick (.t 6) (.c (.bool true)) (.t 8), none⟩]
def f35o2 : List IOper := [
  ⟨(some 10), .build [(.sl 0 0 [])] [], none⟩,
  ⟨none, .store 1 (.t 2) (.t 10), none⟩,
  ⟨(some 3), .mov (.c (.int .i64 1)), none⟩]
def f35o3 : List IOper := [
  ⟨(some 11), .mov (.t 0), none⟩,
  ⟨(some 12), .mks false 128 128 (List.replicate 128 (.int .u8 0)) (.t 11) (.t 11), none⟩,
  ⟨(some 13), .build [(.sl 0 0 [])] [(0, 1, (.t 12))], none⟩,
  ⟨none, .store 1 (.t 2) (.t 13), none⟩,
  ⟨(some 3), .mov (.c (.int .i64 0)), none⟩]
/-- simulacrum/memory.New -/
def f35 : IFn := ⟨(.seq (.ops false f35o0) (.seq (.seq (.ops false f35o1) (.cond (.t 9) (.seq (.ops false f35o2) .ret) .skip)) (.seq (.ops false f35o3) .ret))), [.cell 2 1 true, .t 3], 14⟩
def f36o0 : List IOper := [
  ⟨(some 4), .box 24 (.t 0), none⟩,
  ⟨(some 5), .box 27 (.t 1), none⟩,
  ⟨(some 8), .new 24 [(.sl 0 0 [])], none⟩]
def f36o1 : List IOper := [
  ⟨(some 11), .mov (.t 3), none⟩,
  ⟨(some 12), .len 1 (.t 11), none⟩,
  ⟨(some 13), .mov (.c (.int .i64 0)), none⟩]
def f36o2 : List IOper := [
  ⟨(some 14), .bin .lss (.t 13) (.t 12), none⟩]
def f36o3 : List IOper := [
  ⟨(some 15), .mov (.t 13), none⟩,
  ⟨(some 16), .iaS 1 (.t 11) (.t 13), none⟩,
  ⟨(some 17), .load 1 false (.t 16), none⟩,
  ⟨(some 9), .mov (.t 15), none⟩,
  ⟨(some 10), .mov (.t 17), none⟩]
def f36o4 : List IOper := [
  ⟨(some 19), .load 1 true (.t 4), none⟩,
  ⟨(some 20), .fadd 0 (.t 5), none⟩,
  ⟨(some 21), .load 1 false (.t 20), none⟩,
  ⟨(some 22), .conv .i64 (.t 21), none⟩,
  ⟨(some 23), .mov (.t 2), none⟩,
  ⟨(some 24), .bin .mul (.c (.int .i64 16)) (.t 23), none⟩,
  ⟨(some 25), .bin .add (.t 22) (.t 24), none⟩,
  ⟨(some 26), .mov (.t 9), none⟩,
  ⟨(some 27), .bin .mul (.c (.int .i64 4)) (.t 26), none⟩,
  ⟨(some 28), .bin .add (.t 25) (.t 27), none⟩,
  ⟨(some 29), .mov (.t 10), none⟩,
  ⟨(some 30), .build [(.int .i64 0), (.int .i64 0), (.int .u32 0)] [(0, 1, (.t 28)), (1, 1, (.c (.int .i64 4))), (2, 1, (.t 29))], none⟩,
  ⟨(some 31), .callp 0 55 [(.t 19), (.t 30)], none⟩,
  ⟨(some 18), .mov (.t 31), none⟩,
  ⟨(some 32), .ext (.t 18) 0, none⟩,
  ⟨(some 33), .ext (.t 18) 1, none⟩,
  ⟨none, .store 1 (.t 4) (.t 32), none⟩]
def f36o5 : List IOper := [
  ⟨(some 34), .bin .add (.t 13) (.c (.int .i64 1)), none⟩,
  ⟨(some 13), .mov (.t 34), none⟩]
def f36l6 : IC := (.seq (.ops false f36o2) (.seq (.cond (.t 14) .skip (.exit 0)) (.seq (.block 1 (.seq (.ops false f36o3) (.ops false f36o4))) (.ops false f36o5))))
def f36o7 : List IOper := [
  ⟨(some 35), .load 1 true (.t 4), none⟩,
  ⟨none, .store 1 (.t 8) (.t 35), none⟩]
/-- simulacrum/simulacrumlaw16.describe -/
def f36 : IFn := ⟨(.seq (.ops false f36o0) (.seq (.seq (.ops false f36o1) (.block 0 (.loop f36l6))) (.seq (.ops false f36o7) .ret))), [.cell 8 1 true], 36⟩
def f37o0 : List IOper := [
  ⟨(some 3), .box 24 (.t 0), none⟩,
  ⟨(some 6), .mov (.c (.str [])), none⟩,
  ⟨(some 7), .mov (.c (.bool false)), none⟩]
def f37o1 : List IOper := [
  ⟨(some 12), .mov (.t 1), none⟩,
  ⟨(some 13), .bin .lss (.t 12) (.c (.int .i64 0)), none⟩,
  ⟨(some 14), .mov (.t 13), none⟩,
  ⟨(some 15), .mov (.t 2), (some (14, false))⟩,
  ⟨(some 16), .bin .lss (.t 15) (.c (.int .i64 0)), (some (14, false))⟩,
  ⟨(some 17), .pick (.t 14) (.c (.bool true)) (.t 16), none⟩,
  ⟨(some 18), .mov (.t 17), none⟩,
  ⟨(some 19), .mov (.t 1), (some (18, false))⟩,
  ⟨(some 20), .load 1 true (.t 3), (some (18, false))⟩,
  ⟨(some 21), .callp 0 34 [(.t 20)], (some (18, false))⟩,
  ⟨(some 22), .bin .gtr (.t 19) (.t 21), (some (18, false))⟩,
  ⟨(some 23), .pick (.t 18) (.c (.bool true)) (.t 22), none⟩,
  ⟨(some 24), .mov (.t 23), none⟩,
  ⟨(some 25), .mov (.t 2), (some (24, false))⟩,
  ⟨(some 26), .load 1 true (.t 3), (some (24, false))⟩,
  ⟨(some 27), .callp 0 34 [(.t 26)], (some (24, false))⟩,
  ⟨(some 28), .mov (.t 1), (some (24, false))⟩,
  ⟨(some 29), .bin .sub (.t 27) (.t 28), (some (24, false))⟩,
  ⟨(some 30), .bin .gtr (.t 25) (.t 29), (some (24, false))⟩,
  ⟨(some 31), .pick (.t 24) (.c (.bool true)) (.t 30), none⟩]
def f37o2 : List IOper := [
  ⟨(some 6), .mov (.c (.str [])), none⟩,
  ⟨(some 7), .mov (.c (.bool false)), none⟩]
def f37o3 : List IOper := [
  ⟨(some 32), .mov (.t 2), none⟩,
  ⟨(some 33), .mks false 1 1 [(.int .u8 0)] (.c (.int .i64 0)) (.t 32), none⟩,
  ⟨(some 8), .mov (.t 33), none⟩]
def f37o4 : List IOper := [
  ⟨(some 34), .mov (.t 8), none⟩,
  ⟨(some 35), .len 1 (.t 34), none⟩,
  ⟨(some 36), .mov (.t 2), none⟩,
  ⟨(some 37), .bin .lss (.t 35) (.t 36), none⟩]
def f37o5 : List IOper := [
  ⟨(some 38), .mov (.t 1), none⟩,
  ⟨(some 39), .mov (.t 8), none⟩,
  ⟨(some 40), .len 1 (.t 39), none⟩,
  ⟨(some 41), .bin .add (.t 38) (.t 40), none⟩,
  ⟨(some 9), .mov (.t 41), none⟩]
def f37o6 : List IOper := [
  ⟨(some 42), .fadd 0 (.t 3), none⟩,
  ⟨(some 43), .load 1 false (.t 42), none⟩,
  ⟨(some 44), .mov (.t 9), none⟩,
  ⟨(some 45), .bin .quo (.t 44) (.c (.int .i64 128)), none⟩,
  ⟨(some 46), .iaS 128 (.t 43) (.t 45), none⟩,
  ⟨(some 47), .load 128 true (.t 46), none⟩,
  ⟨(some 10), .new 81 (List.replicate 128 (.int .u8 0)), none⟩,
  ⟨none, .store 128 (.t 10) (.t 47), none⟩]
def f37o7 : List IOper := [
  ⟨(some 48), .mov (.t 9), none⟩,
  ⟨(some 49), .bin .rem (.t 48) (.c (.int .i64 128)), none⟩,
  ⟨(some 50), .slA 128 1 (.t 10) (some (.t 49)) none none, none⟩,
  ⟨(some 11), .mov (.t 50), none⟩]
def f37o8 : List IOper := [
  ⟨(some 51), .mov (.t 8), none⟩,
  ⟨(some 52), .mov (.t 11), none⟩,
  ⟨(some 53), .mov (.t 11), none⟩,
  ⟨(some 54), .len 1 (.t 53), none⟩,
  ⟨(some 55), .mov (.t 2), none⟩,
  ⟨(some 56), .mov (.t 8), none⟩,
  ⟨(some 57), .len 1 (.t 56), none⟩,
  ⟨(some 58), .bin .sub (.t 55) (.t 57), none⟩,
  ⟨(some 59), .mn false [(.t 54), (.t 58)], none⟩,
  ⟨(some 60), .slL 1 (.t 52) none (some (.t 59)) none, none⟩,
  ⟨(some 61), .app 1 1 (.t 51) (.t 60), none⟩,
  ⟨(some 8), .mov (.t 61), none⟩]
def f37l9 : IC := (.seq (.seq (.ops false f37o4) (.cond (.t 37) .skip (.exit 0))) (.block 1 (.seq (.ops false f37o5) (.seq (.ops false f37o6) (.seq (.ops false f37o7) (.ops false f37o8))))))
def f37o10 : List IOper := [
  ⟨(some 62), .mov (.t 8), none⟩,
  ⟨(some 63), .b2s (.t 62), none⟩,
  ⟨(some 6), .mov (.t 63), none⟩,
  ⟨(some 7), .mov (.c (.bool true)), none⟩]
/-- simulacrum/memory.Read -/
def f37 : IFn := ⟨(.seq (.ops false f37o0) (.seq (.seq (.ops false f37o1) (.cond (.t 31) (.seq (.ops false f37o2) .ret) .skip)) (.seq (.ops false f37o3) (.seq (.block 0 (.loop f37l9)) (.seq (.ops false f37o10) .ret))))), [.t 6, .t 7], 64⟩
def f38o0 : List IOper := [
  ⟨(some 1), .box 24 (.t 0), none⟩,
  ⟨(some 2), .mov (.c (.int .i64 0)), none⟩]
def f38o1 : List IOper := [
  ⟨(some 3), .fadd 0 (.t 1), none⟩,
  ⟨(some 4), .load 1 false (.t 3), none⟩,
  ⟨(some 5), .len 128 (.t 4), none⟩,
  ⟨(some 6), .bin .mul (.t 5) (.c (.int .i64 128)), none⟩,
  ⟨(some 2), .mov (.t 6), none⟩]
/-- simulacrum/simulacrumref06.Size -/
def f38 : IFn := ⟨(.seq (.ops false f38o0) (.seq (.ops false f38o1) .ret)), [.t 2], 7⟩
def f39o0 : List IOper := [
  ⟨(some 3), .box 24 (.t 0), none⟩,
  ⟨(some 4), .box 27 (.t 1), none⟩,
  ⟨(some 6), .new 72 [(.int .i64 0), (.int .i64 0), (.int .i64 0), (.bool false), (.int .u32 0), (.int .u32 0)], none⟩]
def f39o1 : List IOper := [
  ⟨(some 7), .new 105 [(.int .u32 0), (.int .u32 0), (.int .u32 0), (.int .u32 0)], none⟩]
def f39o2 : List IOper := [
  ⟨(some 9), .mov (.c (.int .i64 0)), none⟩]
def f39o3 : List IOper := [
  ⟨(some 10), .bin .lss (.t 9) (.c (.int .i64 4)), none⟩]
def f39o4 : List IOper := [
  ⟨(some 11), .mov (.t 9), none⟩,
  ⟨(some 8), .mov (.t 11), none⟩]
def f39o5 : List IOper := [
  ⟨(some 13), .mov (.t 8), none⟩,
  ⟨(some 14), .load 1 true (.t 3), none⟩,
  ⟨(some 15), .load 2 true (.t 4), none⟩,
  ⟨(some 16), .mov (.t 2), none⟩,
  ⟨(some 17), .mov (.t 8), none⟩,
  ⟨(some 18), .callp 0 56 [(.t 15), (.t 16), (.t 17)], none⟩,
  ⟨(some 19), .callp 0 50 [(.t 14), (.t 18), (.c (.int .i64 4))], none⟩,
  ⟨(some 12), .mov (.t 19), none⟩,
  ⟨(some 20), .ext (.t 12) 0, none⟩,
  ⟨(some 21), .ext (.t 12) 1, none⟩,
  ⟨(some 22), .iaA 4 1 (.t 7) (.t 13), none⟩,
  ⟨none, .store 1 (.t 22) (.t 20), none⟩]
def f39o6 : List IOper := [
  ⟨(some 23), .bin .add (.t 9) (.c (.int .i64 1)), none⟩,
  ⟨(some 9), .mov (.t 23), none⟩]
def f39l7 : IC := (.seq (.ops false f39o3) (.seq (.cond (.t 10) .skip (.exit 0)) (.seq (.block 1 (.seq (.ops false f39o4) (.ops true f39o5))) (.ops false f39o6))))
def f39o8 : List IOper := [
  ⟨(some 24), .mov (.t 2), none⟩,
  ⟨(some 25), .iaA 4 1 (.t 7) (.c (.int .i64 0)), none⟩,
  ⟨(some 26), .load 1 false (.t 25), none⟩,
  ⟨(some 27), .conv .i64 (.t 26), none⟩,
  ⟨(some 28), .iaA 4 1 (.t 7) (.c (.int .i64 1)), none⟩,
  ⟨(some 29), .load 1 false (.t 28), none⟩,
  ⟨(some 30), .conv .i64 (.t 29), none⟩,
  ⟨(some 31), .iaA 4 1 (.t 7) (.c (.int .i64 2)), none⟩,
  ⟨(some 32), .load 1 false (.t 31), none⟩,
  ⟨(some 33), .bin .and (.t 32) (.c (.int .u32 1)), none⟩,
  ⟨(some 34), .bin .neq (.t 33) (.c (.int .u32 0)), none⟩,
  ⟨(some 35), .build [(.int .i64 0), (.int .i64 0), (.int .i64 0), (.bool false)] [(0, 1, (.t 24)), (1, 1, (.t 27)), (2, 1, (.t 30)), (3, 1, (.t 34))], none⟩,
  ⟨(some 36), .iaA 4 1 (.t 7) (.c (.int .i64 2)), none⟩,
  ⟨(some 37), .load 1 false (.t 36), none⟩,
  ⟨(some 38), .iaA 4 1 (.t 7) (.c (.int .i64 3)), none⟩,
  ⟨(some 39), .load 1 false (.t 38), none⟩,
  ⟨(some 40), .build [(.int .i64 0), (.int .i64 0), (.int .i64 0), (.bool false), (.int .u32 0), (.int .u32 0)] [(0, 4, (.t 35)), (4, 1, (.t 37)), (5, 1, (.t 39))], none⟩,
  ⟨none, .store 6 (.t 6) (.t 40), none⟩]
/-- simulacrum/ring.load -/
def f39 : IFn := ⟨(.seq (.ops false f39o0) (.seq (.ops false f39o1) (.seq (.seq (.ops false f39o2) (.block 0 (.loop f39l7))) (.seq (.ops false f39o8) .ret)))), [.cell 6 6 true], 41⟩
def f40o0 : List IOper := [
  ⟨(some 1), .box 72 (.t 0), none⟩,
  ⟨(some 2), .mov (.c (.bool false)), none⟩]
def f40o1 : List IOper := [
  ⟨(some 3), .fadd 4 (.t 1), none⟩,
  ⟨(some 4), .load 1 false (.t 3), none⟩,
  ⟨(some 5), .bin .andNot (.t 4) (.c (.int .u32 65283)), none⟩,
  ⟨(some 6), .bin .eql (.t 5) (.c (.int .u32 0)), none⟩,
  ⟨(some 7), .mov (.t 6), none⟩,
  ⟨(some 8), .load 6 true (.t 1), (some (7, true))⟩,
  ⟨(some 9), .callp 0 41 [(.t 8)], (some (7, true))⟩,
  ⟨(some 10), .mov (.t 9), (some (7, true))⟩,
  ⟨(some 11), .load 6 true (.t 1), (some (10, false))⟩,
  ⟨(some 12), .callp 0 42 [(.t 11)], (some (10, false))⟩,
  ⟨(some 13), .bin .eql (.t 12) (.c (.int .i64 0)), (some (10, false))⟩,
  ⟨(some 14), .pick (.t 10) (.c (.bool true)) (.t 13), (some (7, true))⟩,
  ⟨(some 15), .pick (.t 7) (.t 14) (.c (.bool false)), none⟩,
  ⟨(some 2), .mov (.t 15), none⟩]
/-- (simulacrum/ring.descriptor).fits -/
def f40 : IFn := ⟨(.seq (.ops false f40o0) (.seq (.ops false f40o1) .ret)), [.t 2], 16⟩
def f41o0 : List IOper := [
  ⟨(some 1), .box 72 (.t 0), none⟩,
  ⟨(some 2), .mov (.c (.bool false)), none⟩]
def f41o1 : List IOper := [
  ⟨(some 3), .fadd 4 (.t 1), none⟩,
  ⟨(some 4), .load 1 false (.t 3), none⟩,
  ⟨(some 5), .bin .and (.t 4) (.c (.int .u32 2)), none⟩,
  ⟨(some 6), .bin .neq (.t 5) (.c (.int .u32 0)), none⟩,
  ⟨(some 2), .mov (.t 6), none⟩]
/-- (simulacrum/ring.descriptor).more -/
def f41 : IFn := ⟨(.seq (.ops false f41o0) (.seq (.ops false f41o1) .ret)), [.t 2], 7⟩
def f42o0 : List IOper := [
  ⟨(some 1), .box 72 (.t 0), none⟩,
  ⟨(some 2), .mov (.c (.int .i64 0)), none⟩]
def f42o1 : List IOper := [
  ⟨(some 3), .fadd 4 (.t 1), none⟩,
  ⟨(some 4), .load 1 false (.t 3), none⟩,
  ⟨(some 5), .bin .shr (.t 4) (.c (.int .u64 8)), none⟩,
  ⟨(some 6), .bin .and (.t 5) (.c (.int .u32 255)), none⟩,
  ⟨(some 7), .conv .i64 (.t 6), none⟩,
  ⟨(some 2), .mov (.t 7), none⟩]
/-- (simulacrum/ring.descriptor).next -/
def f42 : IFn := ⟨(.seq (.ops false f42o0) (.seq (.ops false f42o1) .ret)), [.t 2], 8⟩
def f43o0 : List IOper := [
  ⟨(some 4), .box 24 (.t 0), none⟩,
  ⟨(some 5), .box 27 (.t 1), none⟩,
  ⟨(some 8), .new 24 [(.sl 0 0 [])], none⟩]
def f43o1 : List IOper := [
  ⟨(some 11), .mov (.t 3), none⟩,
  ⟨(some 12), .len 1 (.t 11), none⟩,
  ⟨(some 13), .mov (.c (.int .i64 0)), none⟩]
def f43o2 : List IOper := [
  ⟨(some 14), .bin .lss (.t 13) (.t 12), none⟩]
def f43o3 : List IOper := [
  ⟨(some 15), .iaS 1 (.t 11) (.t 13), none⟩,
  ⟨(some 16), .load 1 false (.t 15), none⟩,
  ⟨(some 10), .mov (.t 16), none⟩]
def f43o4 : List IOper := [
  ⟨(some 18), .load 1 true (.t 4), none⟩,
  ⟨(some 19), .load 2 true (.t 5), none⟩,
  ⟨(some 20), .mov (.t 10), none⟩,
  ⟨(some 21), .callp 0 56 [(.t 19), (.t 20), (.c (.int .i64 3))], none⟩,
  ⟨(some 22), .mov (.t 2), none⟩,
  ⟨(some 23), .conv .u32 (.t 22), none⟩,
  ⟨(some 24), .build [(.int .i64 0), (.int .i64 0), (.int .u32 0)] [(0, 1, (.t 21)), (1, 1, (.c (.int .i64 4))), (2, 1, (.t 23))], none⟩,
  ⟨(some 25), .callp 0 55 [(.t 18), (.t 24)], none⟩,
  ⟨(some 17), .mov (.t 25), none⟩,
  ⟨(some 26), .ext (.t 17) 0, none⟩,
  ⟨(some 27), .ext (.t 17) 1, none⟩,
  ⟨none, .store 1 (.t 4) (.t 26), none⟩]
def f43o5 : List IOper := [
  ⟨(some 28), .bin .add (.t 13) (.c (.int .i64 1)), none⟩,
  ⟨(some 13), .mov (.t 28), none⟩]
def f43l6 : IC := (.seq (.ops false f43o2) (.seq (.cond (.t 14) .skip (.exit 0)) (.seq (.block 1 (.seq (.ops false f43o3) (.ops true f43o4))) (.ops false f43o5))))
def f43o7 : List IOper := [
  ⟨(some 29), .load 1 true (.t 4), none⟩,
  ⟨none, .store 1 (.t 8) (.t 29), none⟩]
/-- simulacrum/ring.mark -/
def f43 : IFn := ⟨(.seq (.ops false f43o0) (.seq (.seq (.ops false f43o1) (.block 0 (.loop f43l6))) (.seq (.ops false f43o7) .ret))), [.cell 8 1 true], 30⟩
def f44o0 : List IOper := [
  ⟨(some 4), .box 24 (.t 0), none⟩,
  ⟨(some 5), .box 27 (.t 1), none⟩,
  ⟨(some 8), .mov (.c (.int .i64 0)), none⟩]
def f44o1 : List IOper := [
  ⟨(some 9), .load 1 true (.t 4), none⟩,
  ⟨(some 10), .fadd 0 (.t 5), none⟩,
  ⟨(some 11), .load 1 false (.t 10), none⟩,
  ⟨(some 12), .conv .i64 (.t 11), none⟩,
  ⟨(some 13), .mov (.t 2), none⟩,
  ⟨(some 14), .bin .mul (.c (.int .i64 16)) (.t 13), none⟩,
  ⟨(some 15), .bin .add (.t 12) (.t 14), none⟩,
  ⟨(some 16), .mov (.t 3), none⟩,
  ⟨(some 17), .bin .mul (.c (.int .i64 4)) (.t 16), none⟩,
  ⟨(some 18), .bin .add (.t 15) (.t 17), none⟩,
  ⟨(some 19), .callp 0 57 [(.t 9), (.t 18), (.c (.int .i64 4))], none⟩,
  ⟨(some 20), .fld 0 1 false (.t 19), none⟩,
  ⟨(some 21), .conv .i64 (.t 20), none⟩,
  ⟨(some 8), .mov (.t 21), none⟩]
/-- simulacrum/simulacrumref16.word -/
def f44 : IFn := ⟨(.seq (.ops false f44o0) (.seq (.ops false f44o1) .ret)), [.t 8], 22⟩
def f45o0 : List IOper := [
  ⟨(some 4), .box 24 (.t 0), none⟩,
  ⟨(some 5), .box 27 (.t 1), none⟩,
  ⟨(some 8), .mov (.c (.int .i64 0)), none⟩]
def f45o1 : List IOper := [
  ⟨(some 14), .load 1 true (.t 4), none⟩,
  ⟨(some 15), .load 2 true (.t 5), none⟩,
  ⟨(some 16), .mov (.t 3), none⟩,
  ⟨(some 17), .callp 0 44 [(.t 14), (.t 15), (.t 16), (.c (.int .i64 0))], none⟩,
  ⟨(some 9), .mov (.t 17), none⟩]
def f45o2 : List IOper := [
  ⟨(some 18), .load 1 true (.t 4), none⟩,
  ⟨(some 19), .load 2 true (.t 5), none⟩,
  ⟨(some 20), .mov (.t 3), none⟩,
  ⟨(some 21), .callp 0 44 [(.t 18), (.t 19), (.t 20), (.c (.int .i64 1))], none⟩,
  ⟨(some 10), .mov (.t 21), none⟩]
def f45o3 : List IOper := [
  ⟨(some 22), .load 1 true (.t 4), none⟩,
  ⟨(some 23), .load 2 true (.t 5), none⟩,
  ⟨(some 24), .mov (.t 3), none⟩,
  ⟨(some 25), .callp 0 44 [(.t 22), (.t 23), (.t 24), (.c (.int .i64 2))], none⟩,
  ⟨(some 11), .mov (.t 25), none⟩]
def f45o4 : List IOper := [
  ⟨(some 26), .mov (.t 11), none⟩,
  ⟨(some 27), .bin .quo (.t 26) (.c (.int .i64 256)), none⟩,
  ⟨(some 28), .bin .rem (.t 27) (.c (.int .i64 256)), none⟩,
  ⟨(some 12), .mov (.t 28), none⟩]
def f45o5 : List IOper := [
  ⟨(some 29), .mov (.t 11), none⟩,
  ⟨(some 30), .bin .quo (.t 29) (.c (.int .i64 2)), none⟩,
  ⟨(some 31), .bin .rem (.t 30) (.c (.int .i64 2)), none⟩,
  ⟨(some 32), .bin .eql (.t 31) (.c (.int .i64 1)), none⟩,
  ⟨(some 13), .mov (.t 32), none⟩]
def f45o6 : List IOper := [
  ⟨(some 34), .mov (.t 2), none⟩,
  ⟨(some 35), .mov (.t 3), none⟩,
  ⟨(some 36), .callp 0 58 [(.t 34), (.t 35)], none⟩,
  ⟨(some 37), .mov (.t 36), none⟩,
  ⟨(some 38), .mov (.t 2), (some (37, false))⟩,
  ⟨(some 39), .len 4 (.t 38), (some (37, false))⟩,
  ⟨(some 40), .bin .geq (.t 39) (.c (.int .i64 4)), (some (37, false))⟩,
  ⟨(some 41), .pick (.t 37) (.c (.bool true)) (.t 40), none⟩,
  ⟨(some 33), .mov (.t 41), none⟩]
def f45o7 : List IOper := [
  ⟨(some 8), .mov (.c (.int .i64 163)), none⟩]
def f45o8 : List IOper := [
  ⟨(some 43), .load 1 true (.t 4), none⟩,
  ⟨(some 44), .load 2 true (.t 5), none⟩,
  ⟨(some 45), .mov (.t 3), none⟩,
  ⟨(some 46), .callp 0 44 [(.t 43), (.t 44), (.t 45), (.c (.int .i64 3))], none⟩,
  ⟨(some 47), .bin .neq (.t 46) (.c (.int .i64 1)), none⟩,
  ⟨(some 42), .mov (.t 47), none⟩]
def f45o9 : List IOper := [
  ⟨(some 8), .mov (.c (.int .i64 165)), none⟩]
def f45o10 : List IOper := [
  ⟨(some 49), .mov (.t 10), none⟩,
  ⟨(some 50), .bin .lss (.t 49) (.c (.int .i64 1)), none⟩,
  ⟨(some 51), .mov (.t 50), none⟩,
  ⟨(some 52), .mov (.t 10), (some (51, false))⟩,
  ⟨(some 53), .bin .gtr (.t 52) (.c (.int .i64 512)), (some (51, false))⟩,
  ⟨(some 54), .pick (.t 51) (.c (.bool true)) (.t 53), none⟩,
  ⟨(some 55), .mov (.t 54), none⟩,
  ⟨(some 56), .mov (.t 9), (some (55, false))⟩,
  ⟨(some 57), .mov (.t 10), (some (55, false))⟩,
  ⟨(some 58), .bin .add (.t 56) (.t 57), (some (55, false))⟩,
  ⟨(some 59), .load 1 true (.t 4), (some (55, false))⟩,
  ⟨(some 60), .callp 0 38 [(.t 59)], (some (55, false))⟩,
  ⟨(some 61), .bin .gtr (.t 58) (.t 60), (some (55, false))⟩,
  ⟨(some 62), .pick (.t 55) (.c (.bool true)) (.t 61), none⟩,
  ⟨(some 48), .mov (.t 62), none⟩]
def f45o11 : List IOper := [
  ⟨(some 8), .mov (.c (.int .i64 161)), none⟩]
def f45o12 : List IOper := [
  ⟨(some 64), .mov (.t 11), none⟩,
  ⟨(some 65), .bin .quo (.t 64) (.c (.int .i64 4)), none⟩,
  ⟨(some 66), .bin .rem (.t 65) (.c (.int .i64 64)), none⟩,
  ⟨(some 67), .bin .neq (.t 66) (.c (.int .i64 0)), none⟩,
  ⟨(some 68), .mov (.t 67), none⟩,
  ⟨(some 69), .mov (.t 11), (some (68, false))⟩,
  ⟨(some 70), .bin .quo (.t 69) (.c (.int .i64 65536)), (some (68, false))⟩,
  ⟨(some 71), .bin .neq (.t 70) (.c (.int .i64 0)), (some (68, false))⟩,
  ⟨(some 72), .pick (.t 68) (.c (.bool true)) (.t 71), none⟩,
  ⟨(some 73), .mov (.t 72), none⟩,
  ⟨(some 74), .mov (.t 13), (some (73, false))⟩,
  ⟨(some 75), .un .not (.t 74), (some (73, false))⟩,
  ⟨(some 76), .mov (.t 75), (some (73, false))⟩,
  ⟨(some 77), .mov (.t 12), (some (76, true))⟩,
  ⟨(some 78), .bin .neq (.t 77) (.c (.int .i64 0)), (some (76, true))⟩,
  ⟨(some 79), .pick (.t 76) (.t 78) (.c (.bool false)), (some (73, false))⟩,
  ⟨(some 80), .pick (.t 73) (.c (.bool true)) (.t 79), none⟩,
  ⟨(some 81), .mov (.t 80), none⟩,
  ⟨(some 82), .mov (.t 11), (some (81, false))⟩,
  ⟨(some 83), .bin .rem (.t 82) (.c (.int .i64 2)), (some (81, false))⟩,
  ⟨(some 84), .bin .eql (.t 83) (.c (.int .i64 0)), (some (81, false))⟩,
  ⟨(some 85), .mov (.t 84), (some (81, false))⟩,
  ⟨(some 86), .mov (.t 2), (some (85, true))⟩,
  ⟨(some 87), .callp 0 59 [(.t 86)], (some (85, true))⟩,
  ⟨(some 88), .pick (.t 85) (.t 87) (.c (.bool false)), (some (81, false))⟩,
  ⟨(some 89), .pick (.t 81) (.c (.bool true)) (.t 88), none⟩,
  ⟨(some 63), .mov (.t 89), none⟩]
def f45o13 : List IOper := [
  ⟨(some 8), .mov (.c (.int .i64 164)), none⟩]
def f45o14 : List IOper := [
  ⟨(some 91), .mov (.t 13), none⟩,
  ⟨(some 92), .mov (.t 91), none⟩,
  ⟨(some 93), .mov (.t 12), (some (92, true))⟩,
  ⟨(some 94), .fadd 1 (.t 5), (some (92, true))⟩,
  ⟨(some 95), .load 1 false (.t 94), (some (92, true))⟩,
  ⟨(some 96), .conv .i64 (.t 95), (some (92, true))⟩,
  ⟨(some 97), .bin .geq (.t 93) (.t 96), (some (92, true))⟩,
  ⟨(some 98), .pick (.t 92) (.t 97) (.c (.bool false)), none⟩,
  ⟨(some 90), .mov (.t 98), none⟩]
def f45o15 : List IOper := [
  ⟨(some 8), .mov (.c (.int .i64 162)), none⟩]
def f45o16 : List IOper := [
  ⟨(some 8), .mov (.c (.int .i64 0)), none⟩]
/-- simulacrum/simulacrumref16.wrong -/
def f45 : IFn := ⟨(.seq (.ops false f45o0) (.seq (.ops false f45o1) (.seq (.ops false f45o2) (.seq (.ops false f45o3) (.seq (.ops false f45o4) (.seq (.ops false f45o5) (.seq (.block 0 (.seq (.ops false f45o6) (.cond (.t 33) (.seq (.ops false f45o7) .ret) (.seq (.ops false f45o8) (.cond (.t 42) (.seq (.ops false f45o9) .ret) (.seq (.ops false f45o10) (.cond (.t 48) (.seq (.ops false f45o11) .ret) (.seq (.ops false f45o12) (.cond (.t 63) (.seq (.ops false f45o13) .ret) (.seq (.ops false f45o14) (.cond (.t 90) (.seq (.ops false f45o15) .ret) .skip))))))))))) (.seq (.ops false f45o16) .ret)))))))), [.t 8], 99⟩
def f46o0 : List IOper := [
  ⟨(some 4), .box 24 (.t 0), none⟩,
  ⟨(some 5), .box 27 (.t 1), none⟩,
  ⟨(some 8), .new 24 [(.sl 0 0 [])], none⟩]
def f46o1 : List IOper := [
  ⟨(some 9), .load 1 true (.t 4), none⟩,
  ⟨(some 10), .fadd 0 (.t 5), none⟩,
  ⟨(some 11), .load 1 false (.t 10), none⟩,
  ⟨(some 12), .conv .i64 (.t 11), none⟩,
  ⟨(some 13), .mov (.t 2), none⟩,
  ⟨(some 14), .bin .mul (.c (.int .i64 16)) (.t 13), none⟩,
  ⟨(some 15), .bin .add (.t 12) (.t 14), none⟩,
  ⟨(some 16), .bin .add (.t 15) (.c (.int .i64 12)), none⟩,
  ⟨(some 17), .mov (.t 3), none⟩,
  ⟨(some 18), .conv .u32 (.t 17), none⟩,
  ⟨(some 19), .build [(.int .i64 0), (.int .i64 0), (.int .u32 0)] [(0, 1, (.t 16)), (1, 1, (.c (.int .i64 4))), (2, 1, (.t 18))], none⟩,
  ⟨(some 20), .callp 0 60 [(.t 9), (.t 19)], none⟩,
  ⟨(some 21), .fld 0 1 true (.t 20), none⟩,
  ⟨none, .store 1 (.t 8) (.t 21), none⟩]
/-- simulacrum/simulacrumref16.status -/
def f46 : IFn := ⟨(.seq (.ops false f46o0) (.seq (.ops false f46o1) .ret)), [.cell 8 1 true], 22⟩
def f47o0 : List IOper := [
  ⟨(some 4), .box 24 (.t 0), none⟩,
  ⟨(some 5), .box 27 (.t 1), none⟩,
  ⟨(some 8), .new 24 [(.sl 0 0 [])], none⟩]
def f47o1 : List IOper := [
  ⟨(some 9), .mov (.c (.int .i64 0)), none⟩]
def f47o2 : List IOper := [
  ⟨(some 10), .mov (.t 9), none⟩,
  ⟨(some 11), .mov (.t 2), none⟩,
  ⟨(some 12), .len 4 (.t 11), none⟩,
  ⟨(some 13), .bin .lss (.t 10) (.t 12), none⟩]
def f47o3 : List IOper := [
  ⟨(some 16), .load 1 true (.t 4), none⟩,
  ⟨(some 17), .load 2 true (.t 5), none⟩,
  ⟨(some 18), .mov (.t 2), none⟩,
  ⟨(some 19), .mov (.t 9), none⟩,
  ⟨(some 20), .iaS 4 (.t 18) (.t 19), none⟩,
  ⟨(some 21), .fadd 0 (.t 20), none⟩,
  ⟨(some 22), .load 1 false (.t 21), none⟩,
  ⟨(some 23), .mov (.t 3), none⟩,
  ⟨(some 24), .callp 0 46 [(.t 16), (.t 17), (.t 22), (.t 23)], none⟩,
  ⟨none, .store 1 (.t 4) (.t 24), none⟩]
def f47o4 : List IOper := [
  ⟨(some 14), .mov (.t 9), none⟩,
  ⟨(some 15), .bin .add (.t 14) (.c (.int .i64 1)), none⟩,
  ⟨(some 9), .mov (.t 15), none⟩]
def f47l5 : IC := (.seq (.seq (.ops false f47o2) (.cond (.t 13) .skip (.exit 0))) (.seq (.block 1 (.ops true f47o3)) (.ops false f47o4)))
def f47o6 : List IOper := [
  ⟨(some 25), .load 1 true (.t 4), none⟩,
  ⟨none, .store 1 (.t 8) (.t 25), none⟩]
/-- simulacrum/simulacrumref16.mark -/
def f47 : IFn := ⟨(.seq (.ops false f47o0) (.seq (.seq (.ops false f47o1) (.block 0 (.loop f47l5))) (.seq (.ops false f47o6) .ret))), [.cell 8 1 true], 26⟩
def f48o0 : List IOper := [
  ⟨(some 2), .box 24 (.t 0), none⟩,
  ⟨(some 3), .box 24 (.t 1), none⟩,
  ⟨(some 4), .mov (.c (.sl 0 0 [])), none⟩]
def f48o1 : List IOper := [
  ⟨(some 5), .mov (.c (.sl 0 0 [])), none⟩]
def f48o2 : List IOper := [
  ⟨(some 6), .mov (.c (.int .i64 0)), none⟩]
def f48o3 : List IOper := [
  ⟨(some 7), .mov (.t 6), none⟩,
  ⟨(some 8), .fadd 0 (.t 2), none⟩,
  ⟨(some 9), .load 1 false (.t 8), none⟩,
  ⟨(some 10), .len 128 (.t 9), none⟩,
  ⟨(some 11), .fadd 0 (.t 3), none⟩,
  ⟨(some 12), .load 1 false (.t 11), none⟩,
  ⟨(some 13), .len 128 (.t 12), none⟩,
  ⟨(some 14), .mn true [(.t 10), (.t 13)], none⟩,
  ⟨(some 15), .bin .lss (.t 7) (.t 14), none⟩]
def f48o4 : List IOper := [
  ⟨(some 18), .mov (.t 6), none⟩,
  ⟨(some 19), .fadd 0 (.t 2), none⟩,
  ⟨(some 20), .load 1 false (.t 19), none⟩,
  ⟨(some 21), .len 128 (.t 20), none⟩,
  ⟨(some 22), .bin .geq (.t 18) (.t 21), none⟩,
  ⟨(some 23), .mov (.t 22), none⟩,
  ⟨(some 24), .mov (.t 6), (some (23, false))⟩,
  ⟨(some 25), .fadd 0 (.t 3), (some (23, false))⟩,
  ⟨(some 26), .load 1 false (.t 25), (some (23, false))⟩,
  ⟨(some 27), .len 128 (.t 26), (some (23, false))⟩,
  ⟨(some 28), .bin .geq (.t 24) (.t 27), (some (23, false))⟩,
  ⟨(some 29), .pick (.t 23) (.c (.bool true)) (.t 28), none⟩,
  ⟨(some 30), .mov (.t 29), none⟩,
  ⟨(some 31), .fadd 0 (.t 2), (some (30, false))⟩,
  ⟨(some 32), .load 1 false (.t 31), (some (30, false))⟩,
  ⟨(some 33), .mov (.t 6), (some (30, false))⟩,
  ⟨(some 34), .iaS 128 (.t 32) (.t 33), (some (30, false))⟩,
  ⟨(some 35), .load 128 true (.t 34), (some (30, false))⟩,
  ⟨(some 36), .fadd 0 (.t 3), (some (30, false))⟩,
  ⟨(some 37), .load 1 false (.t 36), (some (30, false))⟩,
  ⟨(some 38), .mov (.t 6), (some (30, false))⟩,
  ⟨(some 39), .iaS 128 (.t 37) (.t 38), (some (30, false))⟩,
  ⟨(some 40), .load 128 true (.t 39), (some (30, false))⟩,
  ⟨(some 41), .eqA true [0, 0, 0, 0, 0, 0, 0, 0, 0, 0, 0, 0, 0, 0, 0, 0, 0, 0, 0, 0, 0, 0, 0, 0, 0, 0, 0, 0, 0, 0, 0, 0, 0, 0, 0, 0, 0, 0, 0, 0, 0, 0, 0, 0, 0, 0, 0, 0, 0, 0, 0, 0, 0, 0, 0, 0, 0, 0, 0, 0, 0, 0, 0, 0, 0, 0, 0, 0, 0, 0, 0, 0, 0, 0, 0, 0, 0, 0, 0, 0, 0, 0, 0, 0, 0, 0, 0, 0, 0, 0, 0, 0, 0, 0, 0, 0, 0, 0, 0, 0, 0, 0, 0, 0, 0, 0, 0, 0, 0, 0, 0, 0, 0, 0, 0, 0, 0, 0, 0, 0, 0, 0, 0, 0, 0, 0, 0, 0] (.t 35) (.t 40), (some (30, false))⟩,
  ⟨(some 42), .pick (.t 30) (.c (.bool true)) (.t 41), none⟩]
def f48o5 : List IOper := [
  ⟨(some 43), .mov (.t 5), none⟩,
  ⟨(some 44), .mov (.t 6), none⟩,
  ⟨(some 45), .bsl false 1 [(.int .i64 0)] [(0, 1, (.t 44))], none⟩,
  ⟨(some 46), .app 1 8 (.t 43) (.t 45), none⟩,
  ⟨(some 5), .mov (.t 46), none⟩]
def f48o6 : List IOper := [
  ⟨(some 16), .mov (.t 6), none⟩,
  ⟨(some 17), .bin .add (.t 16) (.c (.int .i64 1)), none⟩,
  ⟨(some 6), .mov (.t 17), none⟩]
def f48l7 : IC := (.seq (.seq (.ops false f48o3) (.cond (.t 15) .skip (.exit 0))) (.seq (.block 1 (.seq (.ops true f48o4) (.cond (.t 42) (.ops false f48o5) .skip))) (.ops false f48o6)))
def f48o8 : List IOper := [
  ⟨(some 47), .mov (.t 5), none⟩,
  ⟨(some 4), .mov (.t 47), none⟩]
/-- simulacrum/simulacrumref06.Diff -/
def f48 : IFn := ⟨(.seq (.ops false f48o0) (.seq (.ops false f48o1) (.seq (.seq (.ops false f48o2) (.block 0 (.loop f48l7))) (.seq (.ops false f48o8) .ret)))), [.t 4], 48⟩
def f49o0 : List IOper := [
  ⟨(some 3), .box 24 (.t 0), none⟩,
  ⟨(some 6), .new 24 [(.sl 0 0 [])], none⟩,
  ⟨(some 7), .mov (.c (.bool false)), none⟩]
def f49o1 : List IOper := [
  ⟨(some 9), .mov (.t 1), none⟩,
  ⟨(some 10), .bin .lss (.t 9) (.c (.int .i64 0)), none⟩,
  ⟨(some 11), .mov (.t 10), none⟩,
  ⟨(some 12), .mov (.t 1), (some (11, false))⟩,
  ⟨(some 13), .load 1 true (.t 3), (some (11, false))⟩,
  ⟨(some 14), .callp 0 34 [(.t 13)], (some (11, false))⟩,
  ⟨(some 15), .bin .gtr (.t 12) (.t 14), (some (11, false))⟩,
  ⟨(some 16), .pick (.t 11) (.c (.bool true)) (.t 15), none⟩,
  ⟨(some 17), .mov (.t 16), none⟩,
  ⟨(some 18), .mov (.t 2), (some (17, false))⟩,
  ⟨(some 19), .lenS (.t 18), (some (17, false))⟩,
  ⟨(some 20), .load 1 true (.t 3), (some (17, false))⟩,
  ⟨(some 21), .callp 0 34 [(.t 20)], (some (17, false))⟩,
  ⟨(some 22), .mov (.t 1), (some (17, false))⟩,
  ⟨(some 23), .bin .sub (.t 21) (.t 22), (some (17, false))⟩,
  ⟨(some 24), .bin .gtr (.t 19) (.t 23), (some (17, false))⟩,
  ⟨(some 25), .pick (.t 17) (.c (.bool true)) (.t 24), none⟩]
def f49o2 : List IOper := [
  ⟨(some 26), .load 1 true (.t 3), none⟩,
  ⟨none, .store 1 (.t 6) (.t 26), none⟩,
  ⟨(some 7), .mov (.c (.bool false)), none⟩]
def f49o3 : List IOper := [
  ⟨(some 27), .fadd 0 (.t 3), none⟩,
  ⟨(some 28), .load 1 false (.t 27), none⟩,
  ⟨(some 29), .callp 2 61 [(.t 28)], none⟩,
  ⟨(some 30), .build [(.sl 0 0 [])] [(0, 1, (.t 29))], none⟩,
  ⟨(some 8), .new 116 [(.sl 0 0 [])], none⟩,
  ⟨none, .store 1 (.t 8) (.t 30), none⟩]
def f49o4 : List IOper := [
  ⟨(some 31), .load 1 true (.t 8), none⟩,
  ⟨(some 32), .mov (.t 1), none⟩,
  ⟨(some 33), .mov (.t 2), none⟩,
  ⟨(some 34), .s2b (.t 33), none⟩,
  ⟨(some 35), .calls 62 [(.t 31), (.t 32), (.t 34)], none⟩]
def f49o5 : List IOper := [
  ⟨(some 36), .fadd 0 (.t 8), none⟩,
  ⟨(some 37), .load 1 false (.t 36), none⟩,
  ⟨(some 38), .build [(.sl 0 0 [])] [(0, 1, (.t 37))], none⟩,
  ⟨none, .store 1 (.t 6) (.t 38), none⟩,
  ⟨(some 7), .mov (.c (.bool true)), none⟩]
/-- simulacrum/memory.Write -/
def f49 : IFn := ⟨(.seq (.ops false f49o0) (.seq (.seq (.ops false f49o1) (.cond (.t 25) (.seq (.ops false f49o2) .ret) .skip)) (.seq (.ops false f49o3) (.seq (.ops false f49o4) (.seq (.ops false f49o5) .ret))))), [.cell 6 1 true, .t 7], 39⟩
def f50o0 : List IOper := [
  ⟨(some 3), .box 24 (.t 0), none⟩,
  ⟨(some 6), .mov (.c (.int .u32 0)), none⟩,
  ⟨(some 7), .mov (.c (.bool false)), none⟩]
def f50o1 : List IOper := [
  ⟨(some 9), .load 1 true (.t 3), none⟩,
  ⟨(some 10), .mov (.t 1), none⟩,
  ⟨(some 11), .mov (.t 2), none⟩,
  ⟨(some 12), .callp 0 63 [(.t 9), (.t 10), (.t 11)], none⟩,
  ⟨(some 13), .un .not (.t 12), none⟩]
def f50o2 : List IOper := [
  ⟨(some 6), .mov (.c (.int .u32 0)), none⟩,
  ⟨(some 7), .mov (.c (.bool false)), none⟩]
def f50o3 : List IOper := [
  ⟨(some 14), .fadd 0 (.t 3), none⟩,
  ⟨(some 15), .load 1 false (.t 14), none⟩,
  ⟨(some 16), .mov (.t 1), none⟩,
  ⟨(some 17), .bin .quo (.t 16) (.c (.int .i64 128)), none⟩,
  ⟨(some 18), .iaS 128 (.t 15) (.t 17), none⟩,
  ⟨(some 19), .mov (.t 1), none⟩,
  ⟨(some 20), .bin .rem (.t 19) (.c (.int .i64 128)), none⟩,
  ⟨(some 21), .slA 128 1 (.t 18) (some (.t 20)) none none, none⟩,
  ⟨(some 8), .mov (.t 21), none⟩]
def f50o4 : List IOper := [
  ⟨(some 22), .mov (.t 2), none⟩,
  ⟨(some 23), .bin .eql (.t 22) (.c (.int .i64 1)), none⟩]
def f50o5 : List IOper := [
  ⟨(some 24), .mov (.t 8), none⟩,
  ⟨(some 25), .iaS 1 (.t 24) (.c (.int .i64 0)), none⟩,
  ⟨(some 26), .load 1 false (.t 25), none⟩,
  ⟨(some 27), .conv .u32 (.t 26), none⟩,
  ⟨(some 6), .mov (.t 27), none⟩,
  ⟨(some 7), .mov (.c (.bool true)), none⟩]
def f50o6 : List IOper := [
  ⟨(some 28), .mov (.t 8), none⟩,
  ⟨(some 29), .iaS 1 (.t 28) (.c (.int .i64 0)), none⟩,
  ⟨(some 30), .load 1 false (.t 29), none⟩,
  ⟨(some 31), .conv .u32 (.t 30), none⟩,
  ⟨(some 32), .mov (.t 8), none⟩,
  ⟨(some 33), .iaS 1 (.t 32) (.c (.int .i64 1)), none⟩,
  ⟨(some 34), .load 1 false (.t 33), none⟩,
  ⟨(some 35), .conv .u32 (.t 34), none⟩,
  ⟨(some 36), .bin .shl (.t 35) (.c (.int .u64 8)), none⟩,
  ⟨(some 37), .bin .or (.t 31) (.t 36), none⟩,
  ⟨(some 38), .mov (.t 8), none⟩,
  ⟨(some 39), .iaS 1 (.t 38) (.c (.int .i64 2)), none⟩,
  ⟨(some 40), .load 1 false (.t 39), none⟩,
  ⟨(some 41), .conv .u32 (.t 40), none⟩,
  ⟨(some 42), .bin .shl (.t 41) (.c (.int .u64 16)), none⟩,
  ⟨(some 43), .bin .or (.t 37) (.t 42), none⟩,
  ⟨(some 44), .mov (.t 8), none⟩,
  ⟨(some 45), .iaS 1 (.t 44) (.c (.int .i64 3)), none⟩,
  ⟨(some 46), .load 1 false (.t 45), none⟩,
  ⟨(some 47), .conv .u32 (.t 46), none⟩,
  ⟨(some 48), .bin .shl (.t 47) (.c (.int .u64 24)), none⟩,
  ⟨(some 49), .bin .or (.t 43) (.t 48), none⟩,
  ⟨(some 6), .mov (.t 49), none⟩,
  ⟨(some 7), .mov (.c (.bool true)), none⟩]
/-- simulacrum/memory.Load -/
def f50 : IFn := ⟨(.seq (.ops false f50o0) (.seq (.seq (.ops false f50o1) (.cond (.t 13) (.seq (.ops false f50o2) .ret) .skip)) (.seq (.ops false f50o3) (.seq (.seq (.ops false f50o4) (.cond (.t 23) (.seq (.ops false f50o5) .ret) .skip)) (.seq (.ops true f50o6) .ret))))), [.t 6, .t 7], 50⟩
def f51o0 : List IOper := [
  ⟨(some 3), .box 24 (.t 0), none⟩,
  ⟨(some 6), .new 87 [(.sl 0 0 []), (.bool false)], none⟩]
def f51o1 : List IOper := [
  ⟨(some 9), .mov (.t 1), none⟩,
  ⟨(some 10), .bin .lss (.t 9) (.c (.int .i64 0)), none⟩,
  ⟨(some 11), .mov (.t 10), none⟩,
  ⟨(some 12), .mov (.t 1), (some (11, false))⟩,
  ⟨(some 13), .load 1 true (.t 3), (some (11, false))⟩,
  ⟨(some 14), .callp 0 38 [(.t 13)], (some (11, false))⟩,
  ⟨(some 15), .bin .gtr (.t 12) (.t 14), (some (11, false))⟩,
  ⟨(some 16), .pick (.t 11) (.c (.bool true)) (.t 15), none⟩,
  ⟨(some 17), .mov (.t 16), none⟩,
  ⟨(some 18), .mov (.t 2), (some (17, false))⟩,
  ⟨(some 19), .lenS (.t 18), (some (17, false))⟩,
  ⟨(some 20), .load 1 true (.t 3), (some (17, false))⟩,
  ⟨(some 21), .callp 0 38 [(.t 20)], (some (17, false))⟩,
  ⟨(some 22), .mov (.t 1), (some (17, false))⟩,
  ⟨(some 23), .bin .sub (.t 21) (.t 22), (some (17, false))⟩,
  ⟨(some 24), .bin .gtr (.t 19) (.t 23), (some (17, false))⟩,
  ⟨(some 25), .pick (.t 17) (.c (.bool true)) (.t 24), none⟩]
def f51o2 : List IOper := [
  ⟨(some 26), .load 1 true (.t 3), none⟩,
  ⟨(some 27), .build [(.sl 0 0 []), (.bool false)] [(0, 1, (.t 26))], none⟩,
  ⟨none, .store 2 (.t 6) (.t 27), none⟩]
def f51o3 : List IOper := [
  ⟨(some 28), .load 1 true (.t 3), none⟩,
  ⟨(some 29), .callp 2 64 [(.t 28)], none⟩,
  ⟨(some 7), .new 24 [(.sl 0 0 [])], none⟩,
  ⟨none, .store 1 (.t 7) (.t 29), none⟩]
def f51o4 : List IOper := [
  ⟨(some 8), .mov (.c (.int .i64 0)), none⟩]
def f51o5 : List IOper := [
  ⟨(some 30), .mov (.t 8), none⟩,
  ⟨(some 31), .mov (.t 2), none⟩,
  ⟨(some 32), .lenS (.t 31), none⟩,
  ⟨(some 33), .bin .lss (.t 30) (.t 32), none⟩]
def f51o6 : List IOper := [
  ⟨(some 36), .fadd 0 (.t 7), none⟩,
  ⟨(some 37), .load 1 false (.t 36), none⟩,
  ⟨(some 38), .mov (.t 1), none⟩,
  ⟨(some 39), .mov (.t 8), none⟩,
  ⟨(some 40), .bin .add (.t 38) (.t 39), none⟩,
  ⟨(some 41), .bin .quo (.t 40) (.c (.int .i64 128)), none⟩,
  ⟨(some 42), .mov (.t 1), none⟩,
  ⟨(some 43), .mov (.t 8), none⟩,
  ⟨(some 44), .bin .add (.t 42) (.t 43), none⟩,
  ⟨(some 45), .bin .rem (.t 44) (.c (.int .i64 128)), none⟩,
  ⟨(some 46), .mov (.t 2), none⟩,
  ⟨(some 47), .mov (.t 8), none⟩,
  ⟨(some 48), .ixS (.t 46) (.t 47), none⟩,
  ⟨(some 49), .iaS 128 (.t 37) (.t 41), none⟩,
  ⟨(some 50), .iaA 128 1 (.t 49) (.t 45), none⟩,
  ⟨none, .store 1 (.t 50) (.t 48), none⟩]
def f51o7 : List IOper := [
  ⟨(some 34), .mov (.t 8), none⟩,
  ⟨(some 35), .bin .add (.t 34) (.c (.int .i64 1)), none⟩,
  ⟨(some 8), .mov (.t 35), none⟩]
def f51l8 : IC := (.seq (.seq (.ops false f51o5) (.cond (.t 33) .skip (.exit 0))) (.seq (.block 1 (.ops true f51o6)) (.ops false f51o7)))
def f51o9 : List IOper := [
  ⟨(some 51), .load 1 true (.t 7), none⟩,
  ⟨(some 52), .build [(.sl 0 0 []), (.bool false)] [(0, 1, (.t 51)), (1, 1, (.c (.bool true)))], none⟩,
  ⟨none, .store 2 (.t 6) (.t 52), none⟩]
/-- simulacrum/simulacrumref06.Write -/
def f51 : IFn := ⟨(.seq (.ops false f51o0) (.seq (.seq (.ops false f51o1) (.cond (.t 25) (.seq (.ops false f51o2) .ret) .skip)) (.seq (.ops false f51o3) (.seq (.seq (.ops false f51o4) (.block 0 (.loop f51l8))) (.seq (.ops false f51o9) .ret))))), [.cell 6 2 true], 53⟩
def f54o0 : List IOper := [
  ⟨(some 3), .box 24 (.t 0), none⟩,
  ⟨(some 6), .new 99 [(.str []), (.bool false)], none⟩]
def f54o1 : List IOper := [
  ⟨(some 9), .mov (.t 1), none⟩,
  ⟨(some 10), .bin .lss (.t 9) (.c (.int .i64 0)), none⟩,
  ⟨(some 11), .mov (.t 10), none⟩,
  ⟨(some 12), .mov (.t 2), (some (11, false))⟩,
  ⟨(some 13), .bin .lss (.t 12) (.c (.int .i64 0)), (some (11, false))⟩,
  ⟨(some 14), .pick (.t 11) (.c (.bool true)) (.t 13), none⟩,
  ⟨(some 15), .mov (.t 14), none⟩,
  ⟨(some 16), .mov (.t 1), (some (15, false))⟩,
  ⟨(some 17), .load 1 true (.t 3), (some (15, false))⟩,
  ⟨(some 18), .callp 0 38 [(.t 17)], (some (15, false))⟩,
  ⟨(some 19), .bin .gtr (.t 16) (.t 18), (some (15, false))⟩,
  ⟨(some 20), .pick (.t 15) (.c (.bool true)) (.t 19), none⟩,
  ⟨(some 21), .mov (.t 20), none⟩,
  ⟨(some 22), .mov (.t 2), (some (21, false))⟩,
  ⟨(some 23), .load 1 true (.t 3), (some (21, false))⟩,
  ⟨(some 24), .callp 0 38 [(.t 23)], (some (21, false))⟩,
  ⟨(some 25), .mov (.t 1), (some (21, false))⟩,
  ⟨(some 26), .bin .sub (.t 24) (.t 25), (some (21, false))⟩,
  ⟨(some 27), .bin .gtr (.t 22) (.t 26), (some (21, false))⟩,
  ⟨(some 28), .pick (.t 21) (.c (.bool true)) (.t 27), none⟩]
def f54o2 : List IOper := [
  ⟨(some 29), .build [(.str []), (.bool false)] [], none⟩,
  ⟨none, .store 2 (.t 6) (.t 29), none⟩]
def f54o3 : List IOper := [
  ⟨(some 7), .mov (.c (.sl 0 0 [])), none⟩]
def f54o4 : List IOper := [
  ⟨(some 8), .mov (.c (.int .i64 0)), none⟩]
def f54o5 : List IOper := [
  ⟨(some 30), .mov (.t 8), none⟩,
  ⟨(some 31), .mov (.t 2), none⟩,
  ⟨(some 32), .bin .lss (.t 30) (.t 31), none⟩]
def f54o6 : List IOper := [
  ⟨(some 35), .mov (.t 7), none⟩,
  ⟨(some 36), .load 1 true (.t 3), none⟩,
  ⟨(some 37), .mov (.t 1), none⟩,
  ⟨(some 38), .mov (.t 8), none⟩,
  ⟨(some 39), .bin .add (.t 37) (.t 38), none⟩,
  ⟨(some 40), .callp 0 66 [(.t 36), (.t 39)], none⟩,
  ⟨(some 41), .bsl false 1 [(.int .u8 0)] [(0, 1, (.t 40))], none⟩,
  ⟨(some 42), .app 1 1 (.t 35) (.t 41), none⟩,
  ⟨(some 7), .mov (.t 42), none⟩]
def f54o7 : List IOper := [
  ⟨(some 33), .mov (.t 8), none⟩,
  ⟨(some 34), .bin .add (.t 33) (.c (.int .i64 1)), none⟩,
  ⟨(some 8), .mov (.t 34), none⟩]
def f54l8 : IC := (.seq (.seq (.ops false f54o5) (.cond (.t 32) .skip (.exit 0))) (.seq (.block 1 (.ops false f54o6)) (.ops false f54o7)))
def f54o9 : List IOper := [
  ⟨(some 43), .mov (.t 7), none⟩,
  ⟨(some 44), .b2s (.t 43), none⟩,
  ⟨(some 45), .build [(.str []), (.bool false)] [(0, 1, (.t 44)), (1, 1, (.c (.bool true)))], none⟩,
  ⟨none, .store 2 (.t 6) (.t 45), none⟩]
/-- simulacrum/simulacrumref06.Read -/
def f54 : IFn := ⟨(.seq (.ops false f54o0) (.seq (.seq (.ops false f54o1) (.cond (.t 28) (.seq (.ops false f54o2) .ret) .skip)) (.seq (.ops false f54o3) (.seq (.seq (.ops false f54o4) (.block 0 (.loop f54l8))) (.seq (.ops false f54o9) .ret))))), [.cell 6 2 true], 46⟩
def f55o0 : List IOper := [
  ⟨(some 2), .box 24 (.t 0), none⟩,
  ⟨(some 3), .box 104 (.t 1), none⟩,
  ⟨(some 4), .new 24 [(.sl 0 0 [])], none⟩,
  ⟨(some 5), .mov (.c (.bool false)), none⟩]
def f55o1 : List IOper := [
  ⟨(some 6), .load 1 true (.t 2), none⟩,
  ⟨(some 7), .load 3 true (.t 3), none⟩,
  ⟨(some 8), .bsl false 3 [(.int .i64 0), (.int .i64 0), (.int .u32 0)] [(0, 3, (.t 7))], none⟩,
  ⟨(some 9), .callp 0 67 [(.t 6), (.t 8)], none⟩,
  ⟨(some 10), .ext (.t 9) 0, none⟩,
  ⟨(some 11), .ext (.t 9) 1, none⟩,
  ⟨none, .store 1 (.t 4) (.t 10), none⟩,
  ⟨(some 5), .mov (.t 11), none⟩]
/-- simulacrum/memory.Store -/
def f55 : IFn := ⟨(.seq (.ops false f55o0) (.seq (.ops false f55o1) .ret)), [.cell 4 1 true, .t 5], 12⟩
def f56o0 : List IOper := [
  ⟨(some 3), .box 27 (.t 0), none⟩,
  ⟨(some 6), .mov (.c (.int .i64 0)), none⟩]
def f56o1 : List IOper := [
  ⟨(some 7), .fadd 0 (.t 3), none⟩,
  ⟨(some 8), .load 1 false (.t 7), none⟩,
  ⟨(some 9), .conv .i64 (.t 8), none⟩,
  ⟨(some 10), .mov (.t 1), none⟩,
  ⟨(some 11), .bin .mul (.c (.int .i64 16)) (.t 10), none⟩,
  ⟨(some 12), .bin .add (.t 9) (.t 11), none⟩,
  ⟨(some 13), .mov (.t 2), none⟩,
  ⟨(some 14), .bin .mul (.c (.int .i64 4)) (.t 13), none⟩,
  ⟨(some 15), .bin .add (.t 12) (.t 14), none⟩,
  ⟨(some 6), .mov (.t 15), none⟩]
/-- simulacrum/ring.place -/
def f56 : IFn := ⟨(.seq (.ops false f56o0) (.seq (.ops false f56o1) .ret)), [.t 6], 16⟩
def f57o0 : List IOper := [
  ⟨(some 3), .box 24 (.t 0), none⟩,
  ⟨(some 6), .new 109 [(.int .u32 0), (.bool false)], none⟩]
def f57o1 : List IOper := [
  ⟨(some 10), .load 1 true (.t 3), none⟩,
  ⟨(some 11), .mov (.t 1), none⟩,
  ⟨(some 12), .mov (.t 2), none⟩,
  ⟨(some 13), .callp 0 68 [(.t 10), (.t 11), (.t 12)], none⟩,
  ⟨(some 7), .mov (.t 13), none⟩]
def f57o2 : List IOper := [
  ⟨(some 14), .mov (.t 7), none⟩,
  ⟨(some 15), .un .not (.t 14), none⟩]
def f57o3 : List IOper := [
  ⟨(some 16), .build [(.int .u32 0), (.bool false)] [], none⟩,
  ⟨none, .store 2 (.t 6) (.t 16), none⟩]
def f57o4 : List IOper := [
  ⟨(some 8), .mov (.c (.int .u32 0)), none⟩]
def f57o5 : List IOper := [
  ⟨(some 17), .mov (.t 2), none⟩,
  ⟨(some 18), .bin .sub (.t 17) (.c (.int .i64 1)), none⟩,
  ⟨(some 9), .mov (.t 18), none⟩]
def f57o6 : List IOper := [
  ⟨(some 19), .mov (.t 9), none⟩,
  ⟨(some 20), .bin .geq (.t 19) (.c (.int .i64 0)), none⟩]
def f57o7 : List IOper := [
  ⟨(some 23), .mov (.t 8), none⟩,
  ⟨(some 24), .bin .shl (.t 23) (.c (.int .u64 8)), none⟩,
  ⟨(some 25), .load 1 true (.t 3), none⟩,
  ⟨(some 26), .mov (.t 1), none⟩,
  ⟨(some 27), .mov (.t 9), none⟩,
  ⟨(some 28), .bin .add (.t 26) (.t 27), none⟩,
  ⟨(some 29), .callp 0 66 [(.t 25), (.t 28)], none⟩,
  ⟨(some 30), .conv .u32 (.t 29), none⟩,
  ⟨(some 31), .bin .or (.t 24) (.t 30), none⟩,
  ⟨(some 8), .mov (.t 31), none⟩]
def f57o8 : List IOper := [
  ⟨(some 21), .mov (.t 9), none⟩,
  ⟨(some 22), .bin .sub (.t 21) (.c (.int .i64 1)), none⟩,
  ⟨(some 9), .mov (.t 22), none⟩]
def f57l9 : IC := (.seq (.seq (.ops false f57o6) (.cond (.t 20) .skip (.exit 0))) (.seq (.block 1 (.ops false f57o7)) (.ops false f57o8)))
def f57o10 : List IOper := [
  ⟨(some 32), .mov (.t 8), none⟩,
  ⟨(some 33), .build [(.int .u32 0), (.bool false)] [(0, 1, (.t 32)), (1, 1, (.c (.bool true)))], none⟩,
  ⟨none, .store 2 (.t 6) (.t 33), none⟩]
/-- simulacrum/simulacrumref06.Load -/
def f57 : IFn := ⟨(.seq (.ops false f57o0) (.seq (.ops false f57o1) (.seq (.seq (.ops false f57o2) (.cond (.t 15) (.seq (.ops false f57o3) .ret) .skip)) (.seq (.ops false f57o4) (.seq (.seq (.ops false f57o5) (.block 0 (.loop f57l9))) (.seq (.ops false f57o10) .ret)))))), [.cell 6 2 true], 34⟩
def f58o0 : List IOper := [
  ⟨(some 4), .mov (.c (.bool false)), none⟩]
def f58o1 : List IOper := [
  ⟨(some 5), .mov (.c (.int .i64 0)), none⟩]
def f58o2 : List IOper := [
  ⟨(some 6), .mov (.t 5), none⟩,
  ⟨(some 7), .mov (.t 0), none⟩,
  ⟨(some 8), .len 4 (.t 7), none⟩,
  ⟨(some 9), .bin .lss (.t 6) (.t 8), none⟩]
def f58o3 : List IOper := [
  ⟨(some 12), .mov (.t 0), none⟩,
  ⟨(some 13), .mov (.t 5), none⟩,
  ⟨(some 14), .iaS 4 (.t 12) (.t 13), none⟩,
  ⟨(some 15), .fadd 0 (.t 14), none⟩,
  ⟨(some 16), .load 1 false (.t 15), none⟩,
  ⟨(some 17), .mov (.t 1), none⟩,
  ⟨(some 18), .bin .eql (.t 16) (.t 17), none⟩]
def f58o4 : List IOper := [
  ⟨(some 4), .mov (.c (.bool true)), none⟩]
def f58o5 : List IOper := [
  ⟨(some 10), .mov (.t 5), none⟩,
  ⟨(some 11), .bin .add (.t 10) (.c (.int .i64 1)), none⟩,
  ⟨(some 5), .mov (.t 11), none⟩]
def f58l6 : IC := (.seq (.seq (.ops false f58o2) (.cond (.t 9) .skip (.exit 0))) (.seq (.block 1 (.seq (.ops false f58o3) (.cond (.t 18) (.seq (.ops false f58o4) .ret) .skip))) (.ops false f58o5)))
def f58o7 : List IOper := [
  ⟨(some 4), .mov (.c (.bool false)), none⟩]
/-- simulacrum/simulacrumref16.there -/
def f58 : IFn := ⟨(.seq (.ops false f58o0) (.seq (.seq (.ops false f58o1) (.block 0 (.loop f58l6))) (.seq (.ops false f58o7) .ret))), [.t 4], 19⟩
def f59o0 : List IOper := [
  ⟨(some 2), .mov (.c (.bool false)), none⟩]
def f59o1 : List IOper := [
  ⟨(some 3), .mov (.c (.int .i64 0)), none⟩]
def f59o2 : List IOper := [
  ⟨(some 4), .mov (.t 3), none⟩,
  ⟨(some 5), .mov (.t 0), none⟩,
  ⟨(some 6), .len 4 (.t 5), none⟩,
  ⟨(some 7), .bin .lss (.t 4) (.t 6), none⟩]
def f59o3 : List IOper := [
  ⟨(some 10), .mov (.t 0), none⟩,
  ⟨(some 11), .mov (.t 3), none⟩,
  ⟨(some 12), .iaS 4 (.t 10) (.t 11), none⟩,
  ⟨(some 13), .fadd 3 (.t 12), none⟩,
  ⟨(some 14), .load 1 false (.t 13), none⟩]
def f59o4 : List IOper := [
  ⟨(some 2), .mov (.c (.bool true)), none⟩]
def f59o5 : List IOper := [
  ⟨(some 8), .mov (.t 3), none⟩,
  ⟨(some 9), .bin .add (.t 8) (.c (.int .i64 1)), none⟩,
  ⟨(some 3), .mov (.t 9), none⟩]
def f59l6 : IC := (.seq (.seq (.ops false f59o2) (.cond (.t 7) .skip (.exit 0))) (.seq (.block 1 (.seq (.ops false f59o3) (.cond (.t 14) (.seq (.ops false f59o4) .ret) .skip))) (.ops false f59o5)))
def f59o7 : List IOper := [
  ⟨(some 2), .mov (.c (.bool false)), none⟩]
/-- simulacrum/simulacrumref16.written -/
def f59 : IFn := ⟨(.seq (.ops false f59o0) (.seq (.seq (.ops false f59o1) (.block 0 (.loop f59l6))) (.seq (.ops false f59o7) .ret))), [.t 2], 15⟩
def f60o0 : List IOper := [
  ⟨(some 2), .box 24 (.t 0), none⟩,
  ⟨(some 3), .box 104 (.t 1), none⟩,
  ⟨(some 4), .new 87 [(.sl 0 0 []), (.bool false)], none⟩]
def f60o1 : List IOper := [
  ⟨(some 8), .load 1 true (.t 2), none⟩,
  ⟨(some 9), .fadd 0 (.t 3), none⟩,
  ⟨(some 10), .load 1 false (.t 9), none⟩,
  ⟨(some 11), .fadd 1 (.t 3), none⟩,
  ⟨(some 12), .load 1 false (.t 11), none⟩,
  ⟨(some 13), .callp 0 68 [(.t 8), (.t 10), (.t 12)], none⟩,
  ⟨(some 5), .mov (.t 13), none⟩]
def f60o2 : List IOper := [
  ⟨(some 14), .mov (.t 5), none⟩,
  ⟨(some 15), .un .not (.t 14), none⟩]
def f60o3 : List IOper := [
  ⟨(some 16), .load 1 true (.t 2), none⟩,
  ⟨(some 17), .build [(.sl 0 0 []), (.bool false)] [(0, 1, (.t 16))], none⟩,
  ⟨none, .store 2 (.t 4) (.t 17), none⟩]
def f60o4 : List IOper := [
  ⟨(some 18), .load 1 true (.t 2), none⟩,
  ⟨(some 19), .callp 2 64 [(.t 18)], none⟩,
  ⟨(some 6), .new 24 [(.sl 0 0 [])], none⟩,
  ⟨none, .store 1 (.t 6) (.t 19), none⟩]
def f60o5 : List IOper := [
  ⟨(some 7), .mov (.c (.int .i64 0)), none⟩]
def f60o6 : List IOper := [
  ⟨(some 20), .mov (.t 7), none⟩,
  ⟨(some 21), .fadd 1 (.t 3), none⟩,
  ⟨(some 22), .load 1 false (.t 21), none⟩,
  ⟨(some 23), .bin .lss (.t 20) (.t 22), none⟩]
def f60o7 : List IOper := [
  ⟨(some 26), .fadd 0 (.t 6), none⟩,
  ⟨(some 27), .load 1 false (.t 26), none⟩,
  ⟨(some 28), .fadd 0 (.t 3), none⟩,
  ⟨(some 29), .load 1 false (.t 28), none⟩,
  ⟨(some 30), .mov (.t 7), none⟩,
  ⟨(some 31), .bin .add (.t 29) (.t 30), none⟩,
  ⟨(some 32), .bin .quo (.t 31) (.c (.int .i64 128)), none⟩,
  ⟨(some 33), .fadd 0 (.t 3), none⟩,
  ⟨(some 34), .load 1 false (.t 33), none⟩,
  ⟨(some 35), .mov (.t 7), none⟩,
  ⟨(some 36), .bin .add (.t 34) (.t 35), none⟩,
  ⟨(some 37), .bin .rem (.t 36) (.c (.int .i64 128)), none⟩,
  ⟨(some 38), .fadd 2 (.t 3), none⟩,
  ⟨(some 39), .load 1 false (.t 38), none⟩,
  ⟨(some 40), .mov (.t 7), none⟩,
  ⟨(some 41), .bin .mul (.c (.int .i64 8)) (.t 40), none⟩,
  ⟨(some 42), .bin .shr (.t 39) (.t 41), none⟩,
  ⟨(some 43), .conv .u8 (.t 42), none⟩,
  ⟨(some 44), .iaS 128 (.t 27) (.t 32), none⟩,
  ⟨(some 45), .iaA 128 1 (.t 44) (.t 37), none⟩,
  ⟨none, .store 1 (.t 45) (.t 43), none⟩]
def f60o8 : List IOper := [
  ⟨(some 24), .mov (.t 7), none⟩,
  ⟨(some 25), .bin .add (.t 24) (.c (.int .i64 1)), none⟩,
  ⟨(some 7), .mov (.t 25), none⟩]
def f60l9 : IC := (.seq (.seq (.ops false f60o6) (.cond (.t 23) .skip (.exit 0))) (.seq (.block 1 (.ops true f60o7)) (.ops false f60o8)))
def f60o10 : List IOper := [
  ⟨(some 46), .load 1 true (.t 6), none⟩,
  ⟨(some 47), .build [(.sl 0 0 []), (.bool false)] [(0, 1, (.t 46)), (1, 1, (.c (.bool true)))], none⟩,
  ⟨none, .store 2 (.t 4) (.t 47), none⟩]
/-- simulacrum/simulacrumref06.Store -/
def f60 : IFn := ⟨(.seq (.ops false f60o0) (.seq (.ops false f60o1) (.seq (.seq (.ops false f60o2) (.cond (.t 15) (.seq (.ops false f60o3) .ret) .skip)) (.seq (.ops false f60o4) (.seq (.seq (.ops false f60o5) (.block 0 (.loop f60l9))) (.seq (.ops false f60o10) .ret)))))), [.cell 4 2 true], 48⟩
def f61o0 : List IOper := [
  ⟨(some 2), .mov (.c (.sl 0 0 [])), none⟩]
def f61o1 : List IOper := [
  ⟨(some 3), .mov (.t 0), none⟩,
  ⟨(some 4), .eq false 5 (.t 3) (.c (.sl 0 0 [])), none⟩]
def f61o2 : List IOper := [
  ⟨(some 2), .mov (.c (.sl 0 0 [])), none⟩]
def f61o3 : List IOper := [
  ⟨(some 5), .bsl false 128 [] [], none⟩,
  ⟨(some 6), .mov (.t 0), none⟩,
  ⟨(some 7), .app 128 128 (.t 5) (.t 6), none⟩,
  ⟨(some 2), .mov (.t 7), none⟩]
/-- slices.Clone[[]simulacrum/api.Page,simulacrum/api.Page] -/
def f61 : IFn := ⟨(.seq (.ops false f61o0) (.seq (.seq (.ops false f61o1) (.cond (.t 4) (.seq (.ops false f61o2) .ret) .skip)) (.seq (.ops false f61o3) .ret))), [.t 2], 8⟩
def f62o0 : List IOper := [
  ⟨(some 3), .box 116 (.t 0), none⟩]
def f62o1 : List IOper := [
  ⟨(some 7), .mov (.t 2), none⟩,
  ⟨(some 8), .len 1 (.t 7), none⟩,
  ⟨(some 9), .bin .gtr (.t 8) (.c (.int .i64 0)), none⟩]
def f62o2 : List IOper := [
  ⟨(some 10), .fadd 0 (.t 3), none⟩,
  ⟨(some 11), .load 1 false (.t 10), none⟩,
  ⟨(some 12), .mov (.t 1), none⟩,
  ⟨(some 13), .bin .quo (.t 12) (.c (.int .i64 128)), none⟩,
  ⟨(some 14), .iaS 128 (.t 11) (.t 13), none⟩,
  ⟨(some 15), .mov (.t 1), none⟩,
  ⟨(some 16), .bin .rem (.t 15) (.c (.int .i64 128)), none⟩,
  ⟨(some 17), .slA 128 1 (.t 14) (some (.t 16)) none none, none⟩,
  ⟨(some 18), .mov (.t 2), none⟩,
  ⟨(some 19), .cpy 1 (.t 17) (.t 18), none⟩,
  ⟨(some 6), .mov (.t 19), none⟩]
def f62o3 : List IOper := [
  ⟨(some 20), .mov (.t 1), none⟩,
  ⟨(some 21), .mov (.t 6), none⟩,
  ⟨(some 22), .bin .add (.t 20) (.t 21), none⟩,
  ⟨(some 23), .mov (.t 2), none⟩,
  ⟨(some 24), .mov (.t 6), none⟩,
  ⟨(some 25), .slL 1 (.t 23) (some (.t 24)) none none, none⟩,
  ⟨(some 1), .mov (.t 22), none⟩,
  ⟨(some 2), .mov (.t 25), none⟩]
def f62l4 : IC := (.seq (.seq (.ops false f62o1) (.cond (.t 9) .skip (.exit 0))) (.block 1 (.seq (.ops false f62o2) (.ops true f62o3))))
/-- (simulacrum/memory.draft).put -/
def f62 : IFn := ⟨(.seq (.ops false f62o0) (.block 0 (.loop f62l4))), [], 26⟩
def f63o0 : List IOper := [
  ⟨(some 3), .box 24 (.t 0), none⟩,
  ⟨(some 6), .mov (.c (.bool false)), none⟩]
def f63o1 : List IOper := [
  ⟨(some 7), .mov (.t 2), none⟩,
  ⟨(some 8), .bin .eql (.t 7) (.c (.int .i64 1)), none⟩,
  ⟨(some 9), .mov (.t 8), none⟩,
  ⟨(some 10), .mov (.t 2), (some (9, false))⟩,
  ⟨(some 11), .bin .eql (.t 10) (.c (.int .i64 4)), (some (9, false))⟩,
  ⟨(some 12), .pick (.t 9) (.c (.bool true)) (.t 11), none⟩,
  ⟨(some 13), .mov (.t 12), none⟩,
  ⟨(some 14), .mov (.t 1), (some (13, true))⟩,
  ⟨(some 15), .bin .geq (.t 14) (.c (.int .i64 0)), (some (13, true))⟩,
  ⟨(some 16), .pick (.t 13) (.t 15) (.c (.bool false)), none⟩,
  ⟨(some 17), .mov (.t 16), none⟩,
  ⟨(some 18), .mov (.t 1), (some (17, true))⟩,
  ⟨(some 19), .mov (.t 2), (some (17, true))⟩,
  ⟨(some 20), .bin .rem (.t 18) (.t 19), (some (17, true))⟩,
  ⟨(some 21), .bin .eql (.t 20) (.c (.int .i64 0)), (some (17, true))⟩,
  ⟨(some 22), .pick (.t 17) (.t 21) (.c (.bool false)), none⟩,
  ⟨(some 23), .mov (.t 22), none⟩,
  ⟨(some 24), .mov (.t 1), (some (23, true))⟩,
  ⟨(some 25), .load 1 true (.t 3), (some (23, true))⟩,
  ⟨(some 26), .callp 0 34 [(.t 25)], (some (23, true))⟩,
  ⟨(some 27), .mov (.t 2), (some (23, true))⟩,
  ⟨(some 28), .bin .sub (.t 26) (.t 27), (some (23, true))⟩,
  ⟨(some 29), .bin .leq (.t 24) (.t 28), (some (23, true))⟩,
  ⟨(some 30), .pick (.t 23) (.t 29) (.c (.bool false)), none⟩,
  ⟨(some 6), .mov (.t 30), none⟩]
/-- simulacrum/memory.isThere -/
def f63 : IFn := ⟨(.seq (.ops false f63o0) (.seq (.ops false f63o1) .ret)), [.t 6], 31⟩
def f64o0 : List IOper := [
  ⟨(some 1), .box 24 (.t 0), none⟩,
  ⟨(some 2), .new 24 [(.sl 0 0 [])], none⟩]
def f64o1 : List IOper := [
  ⟨(some 3), .bsl false 128 [] [], none⟩,
  ⟨(some 4), .fadd 0 (.t 1), none⟩,
  ⟨(some 5), .load 1 false (.t 4), none⟩,
  ⟨(some 6), .app 128 128 (.t 3) (.t 5), none⟩,
  ⟨(some 7), .build [(.sl 0 0 [])] [(0, 1, (.t 6))], none⟩,
  ⟨none, .store 1 (.t 2) (.t 7), none⟩]
/-- simulacrum/simulacrumref06.Copy -/
def f64 : IFn := ⟨(.seq (.ops false f64o0) (.seq (.ops false f64o1) .ret)), [.cell 2 1 true], 8⟩
def f66o0 : List IOper := [
  ⟨(some 2), .box 24 (.t 0), none⟩,
  ⟨(some 4), .mov (.c (.int .u8 0)), none⟩]
def f66o1 : List IOper := [
  ⟨(some 5), .fadd 0 (.t 2), none⟩,
  ⟨(some 6), .load 1 false (.t 5), none⟩,
  ⟨(some 7), .mov (.t 1), none⟩,
  ⟨(some 8), .bin .quo (.t 7) (.c (.int .i64 128)), none⟩,
  ⟨(some 9), .mov (.t 1), none⟩,
  ⟨(some 10), .bin .rem (.t 9) (.c (.int .i64 128)), none⟩,
  ⟨(some 11), .iaS 128 (.t 6) (.t 8), none⟩,
  ⟨(some 12), .iaA 128 1 (.t 11) (.t 10), none⟩,
  ⟨(some 13), .load 1 false (.t 12), none⟩,
  ⟨(some 4), .mov (.t 13), none⟩]
/-- simulacrum/simulacrumref06.Byte -/
def f66 : IFn := ⟨(.seq (.ops false f66o0) (.seq (.ops false f66o1) .ret)), [.t 4], 14⟩
def f67o0 : List IOper := [
  ⟨(some 2), .box 24 (.t 0), none⟩,
  ⟨(some 4), .new 24 [(.sl 0 0 [])], none⟩,
  ⟨(some 5), .mov (.c (.bool false)), none⟩]
def f67o1 : List IOper := [
  ⟨(some 10), .fadd 0 (.t 2), none⟩,
  ⟨(some 11), .load 1 false (.t 10), none⟩,
  ⟨(some 12), .callp 2 61 [(.t 11)], none⟩,
  ⟨(some 13), .build [(.sl 0 0 [])] [(0, 1, (.t 12))], none⟩,
  ⟨(some 6), .new 116 [(.sl 0 0 [])], none⟩,
  ⟨none, .store 1 (.t 6) (.t 13), none⟩]
def f67o2 : List IOper := [
  ⟨(some 14), .load 1 true (.t 6), none⟩,
  ⟨(some 15), .mkf 70 [(.t 14)] [], none⟩,
  ⟨(some 7), .mov (.t 15), none⟩]
def f67o3 : List IOper := [
  ⟨(some 16), .mov (.t 1), none⟩,
  ⟨(some 17), .len 3 (.t 16), none⟩,
  ⟨(some 18), .mov (.c (.int .i64 0)), none⟩]
def f67o4 : List IOper := [
  ⟨(some 19), .bin .lss (.t 18) (.t 17), none⟩]
def f67o5 : List IOper := [
  ⟨(some 20), .iaS 3 (.t 16) (.t 18), none⟩,
  ⟨(some 21), .load 3 true (.t 20), none⟩,
  ⟨(some 9), .new 104 [(.int .i64 0), (.int .i64 0), (.int .u32 0)], none⟩,
  ⟨none, .store 3 (.t 9) (.t 21), none⟩]
def f67o6 : List IOper := [
  ⟨(some 22), .mov (.t 7), none⟩,
  ⟨(some 23), .load 3 true (.t 9), none⟩,
  ⟨(some 24), .callv (.t 22) [(.t 23)], none⟩,
  ⟨(some 25), .un .not (.t 24), none⟩]
def f67o7 : List IOper := [
  ⟨(some 26), .load 1 true (.t 2), none⟩,
  ⟨none, .store 1 (.t 4) (.t 26), none⟩,
  ⟨(some 5), .mov (.c (.bool false)), none⟩]
def f67o8 : List IOper := [
  ⟨(some 27), .bin .add (.t 18) (.c (.int .i64 1)), none⟩,
  ⟨(some 18), .mov (.t 27), none⟩]
def f67l9 : IC := (.seq (.ops false f67o4) (.seq (.cond (.t 19) .skip (.exit 0)) (.seq (.block 1 (.seq (.ops false f67o5) (.seq (.ops false f67o6) (.cond (.t 25) (.seq (.ops false f67o7) .ret) .skip)))) (.ops false f67o8))))
def f67o10 : List IOper := [
  ⟨(some 28), .fadd 0 (.t 6), none⟩,
  ⟨(some 29), .load 1 false (.t 28), none⟩,
  ⟨(some 30), .build [(.sl 0 0 [])] [(0, 1, (.t 29))], none⟩,
  ⟨none, .store 1 (.t 4) (.t 30), none⟩,
  ⟨(some 5), .mov (.c (.bool true)), none⟩]
/-- simulacrum/memory.Apply -/
def f67 : IFn := ⟨(.seq (.ops false f67o0) (.seq (.ops false f67o1) (.seq (.ops false f67o2) (.seq (.seq (.ops false f67o3) (.block 0 (.loop f67l9))) (.seq (.ops false f67o10) .ret))))), [.cell 4 1 true, .t 5], 31⟩
def f68o0 : List IOper := [
  ⟨(some 3), .box 24 (.t 0), none⟩,
  ⟨(some 6), .mov (.c (.bool false)), none⟩]
def f68o1 : List IOper := [
  ⟨(some 7), .mov (.t 2), none⟩,
  ⟨(some 8), .bin .neq (.t 7) (.c (.int .i64 1)), none⟩,
  ⟨(some 9), .mov (.t 8), none⟩,
  ⟨(some 10), .mov (.t 2), (some (9, true))⟩,
  ⟨(some 11), .bin .neq (.t 10) (.c (.int .i64 4)), (some (9, true))⟩,
  ⟨(some 12), .pick (.t 9) (.t 11) (.c (.bool false)), none⟩]
def f68o2 : List IOper := [
  ⟨(some 6), .mov (.c (.bool false)), none⟩]
def f68o3 : List IOper := [
  ⟨(some 13), .mov (.t 1), none⟩,
  ⟨(some 14), .bin .geq (.t 13) (.c (.int .i64 0)), none⟩,
  ⟨(some 15), .mov (.t 14), none⟩,
  ⟨(some 16), .mov (.t 1), (some (15, true))⟩,
  ⟨(some 17), .mov (.t 2), (some (15, true))⟩,
  ⟨(some 18), .bin .rem (.t 16) (.t 17), (some (15, true))⟩,
  ⟨(some 19), .bin .eql (.t 18) (.c (.int .i64 0)), (some (15, true))⟩,
  ⟨(some 20), .pick (.t 15) (.t 19) (.c (.bool false)), none⟩,
  ⟨(some 21), .mov (.t 20), none⟩,
  ⟨(some 22), .mov (.t 1), (some (21, true))⟩,
  ⟨(some 23), .load 1 true (.t 3), (some (21, true))⟩,
  ⟨(some 24), .callp 0 38 [(.t 23)], (some (21, true))⟩,
  ⟨(some 25), .mov (.t 2), (some (21, true))⟩,
  ⟨(some 26), .bin .sub (.t 24) (.t 25), (some (21, true))⟩,
  ⟨(some 27), .bin .leq (.t 22) (.t 26), (some (21, true))⟩,
  ⟨(some 28), .pick (.t 21) (.t 27) (.c (.bool false)), none⟩,
  ⟨(some 6), .mov (.t 28), none⟩]
/-- simulacrum/simulacrumref06.There -/
def f68 : IFn := ⟨(.seq (.ops false f68o0) (.seq (.seq (.ops false f68o1) (.cond (.t 12) (.seq (.ops false f68o2) .ret) .skip)) (.seq (.ops false f68o3) .ret))), [.t 6], 29⟩
def f70o0 : List IOper := [
  ⟨(some 2), .box 116 (.t 0), none⟩,
  ⟨(some 3), .box 104 (.t 1), none⟩,
  ⟨(some 4), .mov (.c (.bool false)), none⟩]
def f70o1 : List IOper := [
  ⟨(some 6), .fadd 0 (.t 2), none⟩,
  ⟨(some 7), .load 1 false (.t 6), none⟩,
  ⟨(some 8), .build [(.sl 0 0 [])] [(0, 1, (.t 7))], none⟩,
  ⟨(some 9), .fadd 0 (.t 3), none⟩,
  ⟨(some 10), .load 1 false (.t 9), none⟩,
  ⟨(some 11), .fadd 1 (.t 3), none⟩,
  ⟨(some 12), .load 1 false (.t 11), none⟩,
  ⟨(some 13), .calln 63 [(.t 8), (.t 10), (.t 12)], none⟩,
  ⟨(some 14), .un .not (.t 13), none⟩]
def f70o2 : List IOper := [
  ⟨(some 4), .mov (.c (.bool false)), none⟩]
def f70o3 : List IOper := [
  ⟨(some 15), .fadd 2 (.t 3), none⟩,
  ⟨(some 16), .load 1 false (.t 15), none⟩,
  ⟨(some 5), .mov (.t 16), none⟩]
def f70o4 : List IOper := [
  ⟨(some 17), .load 1 true (.t 2), none⟩,
  ⟨(some 18), .fadd 0 (.t 3), none⟩,
  ⟨(some 19), .load 1 false (.t 18), none⟩,
  ⟨(some 20), .mov (.t 5), none⟩,
  ⟨(some 21), .conv .u8 (.t 20), none⟩,
  ⟨(some 22), .mov (.t 5), none⟩,
  ⟨(some 23), .bin .shr (.t 22) (.c (.int .u64 8)), none⟩,
  ⟨(some 24), .conv .u8 (.t 23), none⟩,
  ⟨(some 25), .mov (.t 5), none⟩,
  ⟨(some 26), .bin .shr (.t 25) (.c (.int .u64 16)), none⟩,
  ⟨(some 27), .conv .u8 (.t 26), none⟩,
  ⟨(some 28), .mov (.t 5), none⟩,
  ⟨(some 29), .bin .shr (.t 28) (.c (.int .u64 24)), none⟩,
  ⟨(some 30), .conv .u8 (.t 29), none⟩,
  ⟨(some 31), .bsl false 1 [(.int .u8 0), (.int .u8 0), (.int .u8 0), (.int .u8 0)] [(0, 1, (.t 21)), (1, 1, (.t 24)), (2, 1, (.t 27)), (3, 1, (.t 30))], none⟩,
  ⟨(some 32), .fadd 1 (.t 3), none⟩,
  ⟨(some 33), .load 1 false (.t 32), none⟩,
  ⟨(some 34), .slL 1 (.t 31) none (some (.t 33)) none, none⟩,
  ⟨(some 35), .calls 62 [(.t 17), (.t 19), (.t 34)], none⟩]
def f70o5 : List IOper := [
  ⟨(some 4), .mov (.c (.bool true)), none⟩]
/-- (simulacrum/memory.draft).store -/
def f70 : IFn := ⟨(.seq (.ops false f70o0) (.seq (.seq (.ops false f70o1) (.cond (.t 14) (.seq (.ops false f70o2) .ret) .skip)) (.seq (.ops false f70o3) (.seq (.ops true f70o4) (.seq (.ops false f70o5) .ret))))), [.t 4], 36⟩
noncomputable def prims : FuncId → Option Prim := fun f => if f = 30 then some (pGather (evCall FN0 20000)) else none
theorem fz34 : FN0 34 = some (.code f34) := by kernel_rfl
theorem fz37 : FN0 37 = some (.code f37) := by kernel_rfl
noncomputable def FN : FuncId → Option FnDef := FNof Try.prog hint prims
theorem fn30 : FN 30 = some (.prim (pGather (evCall FN0 20000))) := by kernel_rfl
theorem fn3 : FN 3 = some (.code f3) := by kernel_rfl
theorem fn4 : FN 4 = some (.code f4) := by kernel_rfl
theorem fn5 : FN 5 = some (.code f5) := by kernel_rfl
theorem fn6 : FN 6 = some (.code f6) := by kernel_rfl
theorem fn7 : FN 7 = some (.code f7) := by kernel_rfl
theorem fn8 : FN 8 = some (.code f8) := by kernel_rfl
theorem fn9 : FN 9 = some (.code f9) := by kernel_rfl
theorem fn10 : FN 10 = some (.code f10) := by kernel_rfl
theorem fn11 : FN 11 = some (.code f11) := by kernel_rfl
theorem fn12 : FN 12 = some (.code f12) := by kernel_rfl
theorem fn13 : FN 13 = some (.code f13) := by kernel_rfl
theorem fn14 : FN 14 = some (.code f14) := by kernel_rfl
theorem fn15 : FN 15 = some (.code f15) := by kernel_rfl
theorem fn16 : FN 16 = some (.code f16) := by kernel_rfl
theorem fn17 : FN 17 = some (.code f17) := by kernel_rfl
theorem fn18 : FN 18 = some (.code f18) := by kernel_rfl
theorem fn19 : FN 19 = some (.code f19) := by kernel_rfl
theorem fn20 : FN 20 = some (.code f20) := by kernel_rfl
theorem fn21 : FN 21 = some (.code f21) := by kernel_rfl
theorem fn22 : FN 22 = some (.code f22) := by kernel_rfl
theorem fn23 : FN 23 = some (.code f23) := by kernel_rfl
theorem fn24 : FN 24 = some (.code f24) := by kernel_rfl
theorem fn25 : FN 25 = some (.code f25) := by kernel_rfl
theorem fn26 : FN 26 = some (.code f26) := by kernel_rfl
theorem fn27 : FN 27 = some (.code f27) := by kernel_rfl
theorem fn28 : FN 28 = some (.code f28) := by kernel_rfl
theorem fn29 : FN 29 = some (.code f29) := by kernel_rfl
theorem fn31 : FN 31 = some (.code f31) := by kernel_rfl
theorem fn32 : FN 32 = some (.code f32) := by kernel_rfl
theorem fn33 : FN 33 = some (.code f33) := by kernel_rfl
theorem fn34 : FN 34 = some (.code f34) := by kernel_rfl
theorem fn35 : FN 35 = some (.code f35) := by kernel_rfl
theorem fn36 : FN 36 = some (.code f36) := by kernel_rfl
theorem fn37 : FN 37 = some (.code f37) := by kernel_rfl
theorem fn38 : FN 38 = some (.code f38) := by kernel_rfl
theorem fn39 : FN 39 = some (.code f39) := by kernel_rfl
theorem fn40 : FN 40 = some (.code f40) := by kernel_rfl
theorem fn41 : FN 41 = some (.code f41) := by kernel_rfl
theorem fn42 : FN 42 = some (.code f42) := by kernel_rfl
theorem fn43 : FN 43 = some (.code f43) := by kernel_rfl
theorem fn44 : FN 44 = some (.code f44) := by kernel_rfl
theorem fn45 : FN 45 = some (.code f45) := by kernel_rfl
theorem fn46 : FN 46 = some (.code f46) := by kernel_rfl
theorem fn47 : FN 47 = some (.code f47) := by kernel_rfl
theorem fn48 : FN 48 = some (.code f48) := by kernel_rfl
theorem fn49 : FN 49 = some (.code f49) := by kernel_rfl
theorem fn50 : FN 50 = some (.code f50) := by kernel_rfl
theorem fn51 : FN 51 = some (.code f51) := by kernel_rfl
theorem fn54 : FN 54 = some (.code f54) := by kernel_rfl
theorem fn55 : FN 55 = some (.code f55) := by kernel_rfl
theorem fn56 : FN 56 = some (.code f56) := by kernel_rfl
theorem fn57 : FN 57 = some (.code f57) := by kernel_rfl
theorem fn58 : FN 58 = some (.code f58) := by kernel_rfl
theorem fn59 : FN 59 = some (.code f59) := by kernel_rfl
theorem fn60 : FN 60 = some (.code f60) := by kernel_rfl
theorem fn61 : FN 61 = some (.code f61) := by kernel_rfl
theorem fn62 : FN 62 = some (.code f62) := by kernel_rfl
theorem fn63 : FN 63 = some (.code f63) := by kernel_rfl
theorem fn64 : FN 64 = some (.code f64) := by kernel_rfl
theorem fn66 : FN 66 = some (.code f66) := by kernel_rfl
theorem fn67 : FN 67 = some (.code f67) := by kernel_rfl
theorem fn68 : FN 68 = some (.code f68) := by kernel_rfl
theorem fn70 : FN 70 = some (.code f70) := by kernel_rfl
def FNl : FuncId → Option FnDef
  | 3 => some (.code f3)
  | 4 => some (.code f4)
  | 5 => some (.code f5)
  | 6 => some (.code f6)
  | 7 => some (.code f7)
  | 8 => some (.code f8)
  | 9 => some (.code f9)
  | 10 => some (.code f10)
  | 11 => some (.code f11)
  | 12 => some (.code f12)
  | 13 => some (.code f13)
  | 14 => some (.code f14)
  | 15 => some (.code f15)
  | 16 => some (.code f16)
  | 17 => some (.code f17)
  | 18 => some (.code f18)
  | 19 => some (.code f19)
  | 20 => some (.code f20)
  | 21 => some (.code f21)
  | 22 => some (.code f22)
  | 23 => some (.code f23)
  | 24 => some (.code f24)
  | 25 => some (.code f25)
  | 26 => some (.code f26)
  | 27 => some (.code f27)
  | 28 => some (.code f28)
  | 29 => some (.code f29)
  | 31 => some (.code f31)
  | 32 => some (.code f32)
  | 33 => some (.code f33)
  | 34 => some (.code f34)
  | 35 => some (.code f35)
  | 36 => some (.code f36)
  | 37 => some (.code f37)
  | 38 => some (.code f38)
  | 39 => some (.code f39)
  | 40 => some (.code f40)
  | 41 => some (.code f41)
  | 42 => some (.code f42)
  | 43 => some (.code f43)
  | 44 => some (.code f44)
  | 45 => some (.code f45)
  | 46 => some (.code f46)
  | 47 => some (.code f47)
  | 48 => some (.code f48)
  | 49 => some (.code f49)
  | 50 => some (.code f50)
  | 51 => some (.code f51)
  | 54 => some (.code f54)
  | 55 => some (.code f55)
  | 56 => some (.code f56)
  | 57 => some (.code f57)
  | 58 => some (.code f58)
  | 59 => some (.code f59)
  | 60 => some (.code f60)
  | 61 => some (.code f61)
  | 62 => some (.code f62)
  | 63 => some (.code f63)
  | 64 => some (.code f64)
  | 66 => some (.code f66)
  | 67 => some (.code f67)
  | 68 => some (.code f68)
  | 70 => some (.code f70)
  | _ => none
theorem FNl_le (f : FuncId) (d : FnDef) (h : FNl f = some d) : FN f = some d := by
  unfold FNl at h
  split at h <;> simp only [Option.some.injEq, reduceCtorEq] at h <;> subst h
  · exact fn3
  · exact fn4
  · exact fn5
  · exact fn6
  · exact fn7
  · exact fn8
  · exact fn9
  · exact fn10
  · exact fn11
  · exact fn12
  · exact fn13
  · exact fn14
  · exact fn15
  · exact fn16
  · exact fn17
  · exact fn18
  · exact fn19
  · exact fn20
  · exact fn21
  · exact fn22
  · exact fn23
  · exact fn24
  · exact fn25
  · exact fn26
  · exact fn27
  · exact fn28
  · exact fn29
  · exact fn31
  · exact fn32
  · exact fn33
  · exact fn34
  · exact fn35
  · exact fn36
  · exact fn37
  · exact fn38
  · exact fn39
  · exact fn40
  · exact fn41
  · exact fn42
  · exact fn43
  · exact fn44
  · exact fn45
  · exact fn46
  · exact fn47
  · exact fn48
  · exact fn49
  · exact fn50
  · exact fn51
  · exact fn54
  · exact fn55
  · exact fn56
  · exact fn57
  · exact fn58
  · exact fn59
  · exact fn60
  · exact fn61
  · exact fn62
  · exact fn63
  · exact fn64
  · exact fn66
  · exact fn67
  · exact fn68
  · exact fn70
end Go.Proofs.Ythkkhmkieknemaa
