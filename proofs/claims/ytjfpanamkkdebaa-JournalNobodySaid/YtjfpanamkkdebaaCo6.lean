/- (a name: the coder's texts as chapter 11 has them) -/
import Derived.Test.YtjfpanamkkdebaaCoI
